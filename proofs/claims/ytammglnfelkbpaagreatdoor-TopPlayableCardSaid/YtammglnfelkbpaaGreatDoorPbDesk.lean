/- Desks that are sound: what is valid of them; numbers as words. -/
import Derived.Test.YtammglnfelkbpaaGreatDoorChPlain4
import Derived.Test.YtammglnfelkbpaaGreatDoorPbBest
import Derived.Test.YtammglnfelkbpaaGreatDoorBracketCourse1
import Derived.Test.YtammglnfelkbpaaGreatDoorRfSh
import Derived.KernelRfl
namespace Go.Am.Pl
def wi(n lo hi:Int):Bool:=decide (lo<=n)&&decide (n<=hi)
theorem cGf(n lo hi:Int):oS n lo hi=some (wi n lo hi):=by simp[oS,dA,wi]
theorem cFy(n lo hi:Int):jK n lo hi=some (wi n lo hi):=by simp[jK,dA,wi]
def okFd(f:oA):Bool:=wi f.Places 1 32&&wi f.Wilds 0 32&&wi f.Guards 0 32&&wi f.Close 0 9999&&wi f.Freeze f.Close 9999
theorem eCheck0(f:oA):aFb f []=some (bif okFd f then 0 else 50):=by
 unfold aFb aGl;simp only[cGf,dA,c6];have e:aEf [] (([]:List mC).length:Int) [] BIG 0=some 0:=by rw[aVq];rfl
 rw[e];show(bif !okFd f then _ else _)=_;cases okFd f<;>rfl
theorem dCheck0(f:oA):vC f []=some (bif okFd f then 0 else 50):=by
 unfold vC;simp only[cFy,jG,c6];have e:wF [] BIG 0=some 0:=by rw[aVq];rfl
 rw[e];unfold okFd;cases wi f.Places 1 32<;>cases wi f.Wilds 0 32<;>cases wi f.Guards 0 32<;>cases wi f.Close 0 9999<;>cases wi f.Freeze f.Close 9999<;>rfl
end Go.Am.Pl
namespace Go.Am
set_option maxRecDepth 100000
structure aQv(d:dK):Prop where
 days:d.Days.length<=2
 day:∀x∈d.Days,x.length<=2
 stages:d.Stages.length<=10
theorem aUw{d:dK}(h:aQv d):∃e,oF d=some e/\(e=0->sB d=some 0/\(∃S,Good d.Tree [] S)/\Py.valid ⟨d.Days,d.Rest,[]⟩=true/\(d.Stages.length:Int)=d.Tree.Rounds/\d.Stages.all jY=true):=by
 obtain⟨c1,h1,h1',_⟩:=cFp d.Format;have h5:=Pl.dCheck0 d.Field;have h5':=Pl.eCheck0 d.Field;have hsm:Py.smallP (aH.mk d.Days d.Rest []):=⟨by have:=h.days;simp only;omega,λx hx=>by have:=h.day x hx;omega,by simp,λj hj=>by simp at hj⟩;have h8:=Py.ref_Check_eq _ hsm;have h8':=Py.play_Check_eq _ hsm;have hst:=h.stages
 rcases vH d.Tree [] with⟨S,hg⟩|⟨e7,he7⟩
 ·obtain⟨must,hd,hM⟩:=sN hg;have h7:=uS hg;have h7':pD d.Tree []=some 0:=h7;have hj:=yU hg hd hM d.Stages (by omega);have hj':=aQi hg hd hM d.Stages (by omega);unfold oF sB;rw[h5,h5',h7,h7',h1,h1',h8,h8',hj,hj'];simp only[c6]
  generalize(bif Pl.okFd d.Field then(0:Int) else 50)=c5
  have bad:∀{a b:Option Int} {P:Prop},a=some 120->∃e,a=some e/\(e=0->b=some 0/\P):=λh=>⟨120,h,λh=>by cases h⟩;cases hv:Py.valid (aH.mk d.Days d.Rest []) with
  |false=>exact bad (by by_cases e5:c5=0<;>by_cases e1:c1=0<;>simp[e5,e1])
  | true=>
   by_cases hs:(d.Stages.length:Int)=d.Tree.Rounds/\d.Stages.all jY=true
   ·have hr:(wP d.Tree S must d.Stages).2.2=0\/(wP d.Tree S must d.Stages).2.2=2:=by
     unfold wP;rw[if_pos hs]
     split<;>simp
    by_cases e5:c5=0
    ·by_cases e1:c1=0
     ·exact⟨0,by rcases hr with h|h<;>simp[e5,e1,h],λ_=>⟨by rcases hr with h|h<;>simp[e5,e1,h],⟨S,hg⟩,rfl,hs⟩⟩
     ·exact bad (by simp[e5,e1])
    ·exact bad (by simp[e5])
   ·have hr:(wP d.Tree S must d.Stages).2.2=82:=by
     unfold wP;rw[if_neg hs]
    exact bad (by by_cases e5:c5=0<;>by_cases e1:c1=0<;>simp[e5,e1,hr])
 ·have h7:=wW he7;obtain⟨r,hj,hj',_,_⟩:=bTp d.Tree [] d.Stages (by omega);have hne:¬e7=0:=of_decide_eq_false he7.ne;unfold oF sB;rw[h5,h7];simp only[c6]
  generalize(bif Pl.okFd d.Field then(0:Int) else 50)=c5
  exact⟨120,by by_cases e5:c5=0<;>simp[e5,hne],λh=>by cases h⟩
theorem bZu(d:dK)(h:aKr d):∃b,yM d []=some b/\(b=false->aQv d):=by
 obtain⟨_,_,_,hD,_,hS⟩:=h;unfold yM;simp only[jG,dA,c6];have e1:decide ((100:Int)<(([]:List Str).length:Int))=false:=rfl;have e2:(decide ((20:Int)<(([]:List Str).length:Int))&&decide ((([]:List Str).length:Int)<=80))=false:=rfl;rw[e1,e2,Bool.or_false,Bool.or_false]
 by_cases hb:(decide ((8:Int)<(d.Tree.Slots.length:Int))||decide ((2:Int)<(d.Days.length:Int))||decide ((10:Int)<(d.Stages.length:Int)))=true
 ·rw[hb,i7];exact⟨_,rfl,λh=>by cases h⟩
 ·have hb:=Bool.eq_false_iff.2 hb;rw[hb,g6];simp only[j7,n9] at hb;have main:=gR (λk i=>nF [] d k i) d.Days.length (λi=>match d.Days[i]? with|some x=>!decide ((2:Int)<(x.length:Int))|none=>false) (some true) (some false) ?_ ?_ BIG (cB (by omega))
  ·rw[main];cases ha:(List.range d.Days.length).all (λi=>match d.Days[i]? with|some x=>!decide ((2:Int)<(x.length:Int))|none=>false) with
   |false=>exact⟨_,rfl,λh=>by cases h⟩
   | true=>
    refine⟨_,rfl,λ_=>⟨by omega,λx hx=>?_,by omega⟩⟩;obtain⟨i,hi,rfl⟩:=n6 hx;have:=(gP.1 ha) i hi;simp only[g9 hi,l6,n9] at this
    omega
  ·intro k i hi;simp only[nF,m6,hi,j4,i7,bI hi,c6,bF (show i<9223372036854775807 by omega),g9 hi];cases decide ((2:Int)<((d.Days[i]).length:Int))<;>rfl
  ·intro k;simp only[nF,Int.lt_irrefl,m5,g6,aGz];rw[aVq]
   rfl
theorem bSu(d:dK)(h:aKr d):∃b,yN d []=some b/\(b=true->aQv d/\oF d=some 0/\d.Tree.Slots.length<=4):=by
 obtain⟨f,hf,hd⟩:=bZu d h;unfold yN;rw[xA hf];simp only[dA,c6];cases f with
 |true=>exact⟨false,rfl,λh=>by cases h⟩
 | false=>
  have hD:=hd rfl;obtain⟨e,he,_⟩:=aUw hD;have e1:decide ((([]:List Str).length:Int)<=10)=true:=rfl;rw[e1,n8,w9,Bool.and_true];cases h4:decide ((d.Tree.Slots.length:Int)<=4) with
  |false=>exact⟨false,rfl,λh=>by cases h⟩
  | true=>
   have h4:=aE0 h4;rw[i7,xA he,c6];refine⟨_,rfl,λh=>⟨hD,?_,by omega⟩⟩;rw[aE0 h] at he;exact he
def bQe(d:dK):aJ:=aJ.mk d (dJ.mk 0 [] [] (-1) (-1) 0 [] d.Days) (aG.mk 0 0 0 0)
theorem bYu{d:dK}(h:aQv d):vX d=some (bQe d):=by
 unfold vX;have main:=eX (S:=List (List bO)) (λk i l=>lX d k i l) d.Days.length (λ_ _=>some (bQe d)) (λi l=>l=d.Days.take i) ?_ ?_ BIG [] (cB (by have:=h.days;omega)) (by simp)
 ·exact main
 ·intro k i l hi hl ih;have hd:=h.day _ (j9 hi);have hds:=h.days;simp only[lX,m6,hi,j4,i7,bI hi,c6,pN];rw[gD (by simp;omega),c6,c6,gD (by rw[hl];simp;omega),c6,bF (show i<9223372036854775807 by omega)];refine ih _ ?_;rw[hl,aG4,p6 hi]
 ·intro k l hl;simp only[lX,Int.lt_irrefl,m5,g6];rw[hl,aC4]
  rfl
end Go.Am
