/- Layers 6, 7 and 1, plain: the examples. -/
import Derived.Test.YtiohgpipanopaaaGreatBbDet
import Derived.KernelRfl
namespace Go.Am
theorem bQy{p:aQ}{zs r:List Int}(h1:lP p=oH p zs)(h2:aQv zs (λy5 y6=>iH y5 y6 p)=true)(h3:lQ (λy5 y6=>iH y5 y6 p) zs=r)(h4:zs.length<=8):lP p=some (-1::r):=by
 have hl:r.length<=8:=by rw[<-h3,lQ,(List.mergeSort_perm _ _).length_eq];exact h4
 rw[h1,oH,rU,aXc,if_pos ⟨h2,by omega⟩,Option.bind_some,h3,eE (by simp;omega)]
 rfl
def exP:aQ:=⟨4,1,[⟨10,1,false⟩,⟨20,2,false⟩,⟨30,1,false⟩],[5,4]⟩
theorem aZv:lP exP=some [-1,0,1,2]:=by
 refine bQy (zs:=[0,1,2]) (r:=[0,1,2]) (by kernel_rfl) (of_decide_eq_true (by kernel_rfl)) ?_ (by decide);unfold lQ;refine List.mergeSort_of_pairwise ?_;exact of_decide_eq_true (by kernel_rfl)
theorem bNd:sX exP=some (2,0):=by
 unfold sX;rw[aZv]
 kernel_rfl
theorem bSr:vD exP 1=some ([10,-1,30,20],true):=by
 unfold vD;rw[aZv]
 kernel_rfl
theorem bQx:oR exP=some ([10,-1,30,20],0):=by
 unfold oR;rw[bNd];have e:kY 2 exP.Lots (exP.Lots.length:Int) exP BIG 0 0=qB 2 9 exP:=by kernel_rfl
 show kY 2 exP.Lots (exP.Lots.length:Int) exP BIG 0 0=_;rw[e];unfold qB;have e2:(9:Int).tmod 2=1:=by decide
 rw[e2,bSr]
 rfl
end Go.Am
