/- The referee's lines open and retire. -/
import Derived.Test.YtammglnfelkbpaaGreatDoorPbOrd
import Derived.Test.YtammglnfelkbpaaGreatDoorPbDesk
namespace Go.Am
set_option maxRecDepth 100000
def aZr(r p s:Nat):Str:=[111,112,101,110,32]++[48+(r.toUInt8)]++[32]++[48+p.toUInt8]++[32]++[48+s.toUInt8]
def aWz(s:Nat):Str:=[114,101,116,105,114,101,32]++[48+s.toUInt8]
def wR:Str:=[108,101,102,116]
def wQ:Str:=[106,111,98,115]
theorem bRt:∀r:Fin 2,∀p:Fin 2,∀s:Fin 2,sC (aZr r.val p.val s.val)=some (([111,112,101,110],[(r.val:Int),(p.val:Int),(s.val:Int)],true)):=by decide+kernel
theorem bWs:∀s:Fin 2,sC (aWz s.val)=some (([114,101,116,105,114,101],[(s.val:Int)],true)):=by decide+kernel
theorem bRs:sC wR=some ((wR,[],true)):=by kernel_rfl
theorem bRr:sC wQ=some ((wQ,[],true)):=by kernel_rfl
theorem bYr(x:aJ){r p s:Nat}(hr:r<2)(hp:p<2)(hs:s<2):cX x (aZr r p s)=lG x r p s:=by
 unfold cX;rw[bRt ⟨r,hr⟩ ⟨p,hp⟩ ⟨s,hs⟩]
 rfl
theorem cFi(x:aJ){s:Nat}(hs:s<2):cX x (aWz s)=fW x s 3:=by
 unfold cX;rw[bWs ⟨s,hs⟩]
 rfl
theorem bYq(x:aJ):cX x wR=(nI x).map λs=>(s,x):=by
 unfold cX;rw[bRs]
 rfl
theorem bYp(x:aJ):cX x wQ=(qC x).map λs=>(s,x):=by
 unfold cX;rw[bRr]
 rfl
theorem indexB(l:List aG)(hl:l.length<=9223372036854775807)(f:aG->Option Bool)(g:aG->Bool)(hf:∀x∈l,f x=some (g x))(he:∃x∈l,g x=true):∃(i:Nat) (h:i<l.length),mL l f=some (i:Int)/\g l[i]=true:=by
 have main:∀k (i:Nat),l.length-i<k->i<=l.length->(∃j,i<=j/\∃h:j<l.length,g l[j]=true)->∃(r:Nat) (h:r<l.length),fS l f (l.length:Int) k (i:Int)=some (r:Int)/\g l[r]=true:=by
  intro k
  induction k with
  |zero=>intro i h;omega
  | succ k ih=>
   intro i hk hi hj;obtain⟨j,hij,hjl,hgj⟩:=hj;have h:i<l.length:=by omega
   simp only[fS,m6,h,j4,i7,bI h,c6,hf _ (j9 h),bF (show i<9223372036854775807 by omega)];cases hg:g l[i] with
   |true=>exact⟨i,h,rfl,hg⟩
   | false=>
    refine ih (i+1) (by omega) (by omega) ⟨j,?_,hjl,hgj⟩
    rcases aC1 i j with h|h
    ·exact h
    ·have:i=j:=by omega
     subst this;rw[hg] at hgj;cases hgj
 obtain⟨x,hx,hgx⟩:=he;obtain⟨j,hj,rfl⟩:=n6 hx;exact main BIG 0 (cB (by omega)) (aF8 _) ⟨j,aF8 _,hj,hgx⟩
def lA(d:dK)(sl:List aA)(b:aG):aJ:=aJ.mk d (dJ.mk 0 [] sl (-1) (-1) 0 [] d.Days) b
def aAg(d:dK)(sl:List aA)(r p s:Int)(b:aG):aJ:=aJ.mk d (dJ.mk 0 [] sl r p s [] d.Days) b
theorem bWk{d:dK}{sl:List aA}{r p s:Nat}(hs:s<2){b b0:aG}{l:List aG}(hR:pE d.Tree sl=some (l,0))(hl:l.length<=32)(hb:b∈l)(hu:∀c∈l,c.Round=r->c.Place=p->c=b)(h1:b.Round=r)(h2:b.Place=p):
  lG (lA d sl b0) r p s=some ([111,107],aAg d sl r p s b):=by
 have hrd:oZ (lA d sl b0) r p=some (b,true):=by
  unfold oZ;show(pE d.Tree sl).bind _=_;rw[hR,c6];obtain⟨i,hi,he,hg⟩:=indexB l (by omega) (λy5=>qI y5 (r:Int) (p:Int)) (λb=>decide (b.Round=(r:Int))&&decide (b.Place=(p:Int))) (λb _=>by unfold qI;rw[dA,c6]) ⟨b,hb,by rw[h1,h2];simp⟩;simp only[f4,l9] at hg;have e:=hu _ (j9 hi) hg.1 hg.2;rw[xA he,j6 (by omega),g6,xA (bI hi),e]
 unfold lG;rw[xA hrd];have hp:iX (lA d sl b0)=some false:=rfl;rw[xA hp,g6,c6,j6 (show¬(1:Int)<(s:Int) by omega),g6,l8,c6,g6]
 rfl
theorem bNt{n:Int}(h0:0<=n)(h1:n<=999):∃r,strconv_Itoa n=some r/\bV n=some r:=by
 have key:∀m:Fin 1000,strconv_Itoa ((m.val:Nat):Int)=bV ((m.val:Nat):Int):=by decide+kernel
 have:=key ⟨n.toNat,by omega⟩;simp only at this;rw[show((n.toNat:Nat):Int)=n by omega] at this;have hi:∃r,strconv_Itoa n=some r:=by
  unfold strconv_Itoa aZb;rw[if_pos (by omega)];exact⟨_,rfl⟩
 obtain⟨r,hr⟩:=hi;exact⟨r,hr,this▸hr⟩
theorem cCb{d:dK}{sl:List aA}{r p s:Nat}(hs:s<2){b:aG}(hl:sl.length<60)(h1:0<=b.One/\b.One<=999)(h2:0<=b.Two/\b.Two<=999):
  ∃(w:Str) (n:Int),(n=b.One\/n=b.Two)/\0<=n/\n<=999/\bV n=some w/\fW (aAg d sl r p s b) s 3=some (w,lA d (sl++[⟨3,r,p,n,0⟩]) b):=by
 obtain⟨w1,e1,f1⟩:=bNt h1.1 h1.2;obtain⟨w2,e2,f2⟩:=bNt h2.1 h2.2;have hw:∀side:Int,lY (aAg d sl r p s b) side 3=some (bif decide (side=1) then(w2,lA d (sl++[⟨3,r,p,b.Two,0⟩]) b) else(w1,lA d (sl++[⟨3,r,p,b.One,0⟩]) b)):=by
  intro side;unfold lY;have h60:decide ((60:Int)<=((aAg d sl r p s b).Register.Slips.length:Int))=false:=j6 (by show¬(60:Int)<=(sl.length:Int);omega);rw[h60,g6];cases decide (side=1) with
  | true=>
   rw[i7,gD (by show(sl.length+1)*40<=140737488355328;omega),c6];show(strconv_Itoa b.Two).bind _=_;rw[e2]
   rfl
  | false=>
   rw[g6,gD (by show(sl.length+1)*40<=140737488355328;omega),c6];show(strconv_Itoa b.One).bind _=_;rw[e1]
   rfl
 unfold fW;have hp:iX (aAg d sl r p s b)=some true:=by
  show some (decide ((0:Int)<=(r:Int)))=_;rw[n7 (by omega)]
 rw[xA hp,l8,g6,c6,j6 (show¬(1:Int)<(s:Int) by omega),g6,xA (hw _)]
 rcases(show s=0\/s=1 by omega) with rfl|rfl
 ·exact⟨w2,b.Two,.inr rfl,h2.1,h2.2,f2,rfl⟩
 ·exact⟨w1,b.One,.inl rfl,h1.1,h1.2,f1,rfl⟩
end Go.Am
