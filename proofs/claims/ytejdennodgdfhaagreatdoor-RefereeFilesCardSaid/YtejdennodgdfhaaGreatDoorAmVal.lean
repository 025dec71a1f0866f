/- A field of a structure's value. -/
import Derived.Test.YtejdennodgdfhaaGreatDoorAmGen
namespace Go.Am
variable{P:Program}{n d:Nat}{st:St}
theorem aFu[Mode]{x:Operand}{s f:Nat}{fs:Array Field}{fd:Field}{ds:List D}{d0:D}{ty:TypeId}{pos:String}{af:Array Edge}{gd:Option (Nat×Bool)}(hd:d<n)
  (hx:st.eval x=.agg ds)(hs:∀w,(underlying s).run P w=.ok (.struct fs) w)(hf:fs[f]?=some fd)(h1:dJ P fd.type)(hj:ds[fd.offset]?=some d0):
  aY P n ⟨some d,.field s x f,ty,pos,af,gd⟩ st (st.set d (.d d0)):=
 cA rfl hd λA M w0 a w hR=>by
  have hk:cJ x=true:=by cases x with|const u=>cases hx|_=>rfl
  have h:=hR.eval' hk;rw[hx] at h
  generalize hu:a.eval x=u at h
  cases h with
  | agg h=>
   rename_i cs
   obtain⟨v,hv,hdv⟩:=h.get hj;refine⟨v,?_,.d hdv⟩;have hv':cs[fd.offset]?=some v:=by simpa using hv
   simp[execOp,hu,Instr.field,hs,hf,part,h1.1,asAgg,hv']
end Go.Am
