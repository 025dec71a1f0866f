/- The program logic 'Am': the rules in the form in which a program prints them. -/
import Derived.Test.YtiohgpipanopaaaGreatAmFn
namespace Go.Am
def aD(n:Int):List D:=[.lit (.int .i64 n)]
def cAo(b:Bool):List D:=[.lit (.bool b)]
def bQm(a b:Int):Int:=IntKind.i64.wrap ((BitVec.ofInt IntKind.i64.bits a&&&BitVec.ofInt IntKind.i64.bits b).toNat)
def bOr(a b:Int):Int:=IntKind.i64.wrap ((BitVec.ofInt IntKind.i64.bits a|||BitVec.ofInt IntKind.i64.bits b).toNat)
def aSn(a b:Int):Int:=IntKind.i64.wrap ((BitVec.ofInt IntKind.i64.bits a^^^BitVec.ofInt IntKind.i64.bits b).toNat)
def chk(b:Bool):Option Unit:=bif b then some () else none
theorem bDe{b:Bool}{u:Unit}(h:chk b=some u):b=true:=by cases b<;>simp[chk] at h|-
def app{α:Type}(bytes:Nat)(xs ys:List α):Option (List α):=if(xs.length+ys.length)*bytes<=140737488355328 then some (xs++ys) else none
theorem aGi{α:Type}{bytes:Nat}{xs ys zs:List α}(h:app bytes xs ys=some zs):(xs.length+ys.length)*bytes<=140737488355328/\zs=xs++ys:=by
 unfold app at h;split at h
 ·rename_i hc;cases h;exact⟨hc,rfl⟩
 ·cases h
theorem bEp{α β:Type}(f:α->β){bytes:Nat}{m:Int}{z:α}{l:List α}(h:mk bytes m z=some l):mk bytes m (f z)=some (l.map f):=by
 obtain⟨h0,h1,rfl⟩:=bIn h
 simp[mk,h0,h1]
theorem aDd{α:Type}(f:α->List D)(xs:List α)(i:Nat)(y:α){ds:List D}(h:ds=f y):(xs.map f).set i ds=(xs.set i y).map f:=by
 subst h;exact List.map_set.symm
theorem fY{α:Type}(f:α->List D){xs:List α}{p:Int}{x:α}(h:idx xs p=some x):(xs.map f)[p.toNat]?=some (f x):=(zY (cF f h)).2.2
section
variable{P:Program}{n d:Nat}{st st':St}{o:Oper}{Q:Exit->St->Prop}{N:St->Prop}{ops:Array Oper}
theorem bFv{α:Type}{x:Operand}{k:Nat}{f:α->List D}{xs:List α}{t ty:TypeId}{pos:String}{af:Array Edge}{gd:Option (Nat×Bool)}(hd:d<n)
  (hx:st.eval x=.d (.sl k (xs.map f))){e kk:Nat}(ht:gU P t e kk):bB P n ⟨some d,.call {callee:=.builtin .len,args:= #[x],argTypes:= #[t]},ty,pos,af,gd⟩ st (st.set d (.i xs.length)):=by
 have:=bFu (ty:=ty) (pos:=pos) (af:=af) (gd:=gd) hd hx ht
 rwa[List.length_map] at this
theorem aMw{α:Type}{x:Operand}{v:Value}{e k m:Nat}{f:α->List D}{xs:List α}{t ty:TypeId}{pos:String}{af:Array Edge}{gd:Option (Nat×Bool)}(hd:d<n)
  (hx:st.eval x=.d (.lit v))(ho:st.objs[m]?=some (.arr v e k (xs.map f))){e' kk:Nat}(ht:gU P t e' kk):bB P n ⟨some d,.call {callee:=.builtin .len,args:= #[x],argTypes:= #[t]},ty,pos,af,gd⟩ st (st.set d (.i xs.length)):=by
 have:=bBa (ty:=ty) (pos:=pos) (af:=af) (gd:=gd) hd hx ho ht
 rwa[List.length_map] at this
theorem pM{α:Type}{t e k bytes i:Nat}{z v:Value}{x y:Operand}{f:α->List D}{xs ys zs:List α}{ty:TypeId}{pos:String}{af:Array Edge}{gd:Option (Nat×Bool)}(hd:d<n)(ht:SliceTy P t e k bytes z)
  (hx:st.eval x=.d (.lit v))(ho:st.objs[i]?=some (.arr v e k (xs.map f)))(hy:st.eval y=.d (.sl k (ys.map f)))(hk:∀x,(f x).length=k)
  (h:app bytes xs ys=some zs)(hby:Nat.blt 0 bytes=true):
  Step P n ⟨some d,.call {callee:=.builtin .append,args:= #[x,y],argTypes:= #[t,t]},ty,pos,af,gd⟩ st
   (λs=>∃v',s=(st.setput d (.d (.lit v')) i (.arr v' e k (zs.map f)))):=by
 obtain⟨h1,rfl⟩:=aGi h;have:=aTx (ty:=ty) (pos:=pos) (af:=af) (gd:=gd) hd ht hx ho hy (dT hk) (by simpa using h1) (aE hby)
 simpa using this
theorem bUo{x y:Operand}{k:IntKind}{p q:Int}{ts:Array TypeId}{ty:TypeId}{pos:String}{af:Array Edge}{gd:Option (Nat×Bool)}(hd:d<n)
  (hx:st.eval x=.d (.lit (.int k p)))(hy:st.eval y=.d (.lit (.int k q))):
  bB P n ⟨some d,.call {callee:=.builtin .max,args:= #[x,y],argTypes:=ts},ty,pos,af,gd⟩ st (st.set d (.d (.lit (.int k (max p q))))):=
 kX rfl hd rfl λA M w0 a w hR=>by
  have:(if q>p then q else p)=max p q:=by simp only[Int.max_def];split<;>split<;>omega
  simp[execOp,resolve,hR.lit hx,hR.lit hy,invoke,builtin,Builtin.max_,Builtin.max2,this]
theorem bUp{x y:Operand}{k:IntKind}{p q:Int}{ts:Array TypeId}{ty:TypeId}{pos:String}{af:Array Edge}{gd:Option (Nat×Bool)}(hd:d<n)
  (hx:st.eval x=.d (.lit (.int k p)))(hy:st.eval y=.d (.lit (.int k q))):
  bB P n ⟨some d,.call {callee:=.builtin .min,args:= #[x,y],argTypes:=ts},ty,pos,af,gd⟩ st (st.set d (.d (.lit (.int k (min p q))))):=
 kX rfl hd rfl λA M w0 a w hR=>by
  have:(if q<p then q else p)=min p q:=by simp only[Int.min_def];split<;>split<;>omega
  simp[execOp,resolve,hR.lit hx,hR.lit hy,invoke,builtin,Builtin.min_,Builtin.min2,this]
theorem bHo{x y:Operand}{t len e:Nat}{ds:List D}{kd:IntKind}{p:Int}{d0:D}{ty:TypeId}{pos:String}{af:Array Edge}{gd:Option (Nat×Bool)}(hd:d<n)
  (hx:st.eval x=.agg ds)(hy:st.eval y=.d (.lit (.int kd p)))(ht:aUf P t len e 1)(h1:iF P e)(hp:0<=p/\p<len)(hj:ds[p.toNat*1]?=some d0):
  bB P n ⟨some d,.index t x y,ty,pos,af,gd⟩ st (st.set d (.d d0)):=
 cO rfl hd λA M w0 a w hR=>by
  have hk:cT x=true:=by cases x with|const u=>cases hx|_=>rfl
  have h:=hR.eval' hk;rw[hx] at h
  generalize hu:a.eval x=u at h
  cases h with
  | agg h=>
   rename_i cs
   obtain⟨v,hv,hdv⟩:=h.get hj;refine⟨v,?_,.d hdv⟩;have hv':cs[p.toNat]?=some v:=by simpa using hv
   simp[execOp,hu,hR.lit hy,Instr.index,asIntOf,ht.1,ht.2,hp.1,hp.2,part,h1.1,hv']
theorem bFs{x:Operand}{k k':IntKind}{p:Int}{t u ty:TypeId}{td:TypeDesc}{pos:String}{af:Array Edge}{gd:Option (Nat×Bool)}(hd:d<n)
  (hx:st.eval x=.d (.lit (.int k p)))(ht:∀w,(underlying t).run P w=.ok td w)(hu:∀w,(underlying u).run P w=.ok (.int k') w):
  bB P n ⟨some d,.convert t u x,ty,pos,af,gd⟩ st (st.set d (.d (.lit (.int k' (k'.wrap p))))):=
 kX rfl hd rfl λA M w0 a w hR=>by simp[execOp,hR.lit hx,convert,ht,hu,Conv.intToInt]
theorem dQ{ks:List Nat}{t:Nat}{v:AV}{s:St}(ho:s.objs=st.objs)(he:AllEq s.env st.env ks)(hv:s.env t=v):Ent s ⟨upd (keep ks st.env) t v,st.objs⟩:=by
 rw[<-ho];exact cP (aL hv (aR he))
theorem eV{S T:Type}(l:List Nat)(us:S->List (Nat×AV))(objs:S->List MO)(F:Nat->S->Option T){r:T}{c:Code}(hz:∀s,F 0 s=none){k0:Nat}(s0:S)(h0:F k0 s0=some r)
  (he:Ent st ⟨zD (keep l st.env) (us s0),objs s0⟩)
  (body:∀k s,F (k+1) s=some r->Tr P n c ⟨zD (keep l st.env) (us s),objs s⟩ (jO (λst'=>∃s',F k s'=some r/\Ent st' ⟨zD (keep l st.env) (us s'),objs s'⟩) Q)):Tr P n (.loop c) st Q:=
 eW he (bJn (λs=>⟨zD (keep l st.env) (us s),objs s⟩) F r hz body k0 s0 h0)
theorem bWz(h:Q .normal st):TrL P n ops [] st Q:=λ_ _ _ _ _ hR=>wpListIn_nil ⟨st,h,hR⟩
theorem bPt{l:Nat}(h:N st):Tr P n (.label l) st (jO N Q):=bGg h
theorem aGe{id id':Nat}{c:Code}(h:Tr P n c st (xA id N (xA id' N Q))):Tr P n (.block id c) st (xA id' N Q):=aUc h λ_ h=>h
end
def inb(len:Nat)(p:Int):Option Unit:=if 0<=p/\p<len then some () else none
theorem lH{len:Nat}{p:Int}{u:Unit}(h:inb len p=some u):0<=p/\p<len:=by
 unfold inb at h;split at h
 ·assumption
 ·cases h
def okI(n:Int):Prop:= -9223372036854775808<=n/\n<=9223372036854775807
def okB(_:Bool):Prop:=True
def okL{α:Type}(ok:α->Prop)(xs:List α):Prop:=xs.length<=maxLen/\∀x∈xs,ok x
end Go.Am
