/- The plain law TopPlayable. -/
import Derived.Test.YtammglnfelkbpaaGreatDoorPbLoop
import Derived.Test.YtammglnfelkbpaaGreatDoorPySh
import Derived.Test.YtammglnfelkbpaaGreatDoorSuW
namespace Go.Am
set_option maxRecDepth 100000
theorem aIi{a b:Str}(h:a.length+b.length<=1000):lZ a b=some (a++b):=by
 unfold lZ;rw[if_pos (by omega)]
theorem bZg:∀r:Fin 2,bV ((r.val:Nat):Int)=some [48+r.val.toUInt8]:=by decide+kernel
theorem cGk{α:Type}{r p s:Nat}(hr:r<2)(hp:p<2)(hs:s<2){v:Int}(hv:v=(s:Int))(K:Str->Str->Option α):
  ((bV (r:Int)).bind λr21=>(lZ ([111,112,101,110,32]:Str) r21).bind λx22=>(lZ x22 ([32]:Str)).bind λx23=>(bV (p:Int)).bind λr24=>(lZ x23 r24).bind λx25=>(lZ x25 ([32]:Str)).bind λx26=>
   (bV v).bind λr27=>(lZ x26 r27).bind λx28=>(bV v).bind λr29=>(lZ ([114,101,116,105,114,101,32]:Str) r29).bind λx30=>K x28 x30)=K (aZr r p s) (aWz s):=by
 subst hv;rw[bZg ⟨r,hr⟩,c6,aIi (by simp),c6,aIi (by simp),c6,bZg ⟨p,hp⟩,c6,aIi (by simp),c6,aIi (by simp),c6,bZg ⟨s,hs⟩,c6,aIi (by simp),c6,c6,aIi (by simp),c6]
 rfl
theorem bXq(sides:List Int)(i:Nat):(bif decide ((i:Int)<(sides.length:Int)) then((idx sides i).bind λx18=>some (decide (x18=1))) else(some false))=some (decide (rG sides i=1)):=by
 unfold rG
 by_cases h:i<sides.length
 ·rw[n7 (by omega),i7,bI h,c6,g9 h]
  by_cases h1:sides[i]=1<;>simp[h1]
 ·rw[j6 (by omega),g6,aC3 (by omega)]
  simp
section
variable{d:dK}{S:List Int}{must:List (List Int)}(ht:TreeOK d.Tree)(hR:d.Tree.Rounds.toNat<=2){stages:List bR}{order:List aF}(ho:Py.isOrd ⟨d.Days,d.Rest,eW stages (cO d.Tree S must)⟩ order=true)(hn:order.length<=6)(hst:(stages.length:Int)=d.Tree.Rounds/\stages.all jY=true)(hds:d.Stages=stages)(sides:List Int)
include hR ho hn
theorem cMz:∀(m i k:Nat),order.length-i=m->i<=order.length->m<k->
  eH sides (cO d.Tree S must) order d k (i:Int) (qL d.Tree must order sides i)=lB order d (qL d.Tree must order sides order.length):=by
 intro m
 induction m with
 | zero=>
  intro i k hm hi hk;have:i=order.length:=by omega
  subst this;obtain⟨k,rfl⟩:∃q,k=q+1:=⟨k-1,by omega⟩;simp only[eH,Int.lt_irrefl,m5,g6]
 | succ m ih=>
  intro i k hm hi hk;have hio:i<order.length:=by omega
  obtain⟨k,rfl⟩:∃q,k=q+1:=⟨k-1,by omega⟩;obtain⟨m1,m2,m3,m4⟩:=bIs hR ho hio;have hsd:=bFd sides i;have hsl:=aJu (t:=d.Tree) (must:=must) (order:=order) (sides:=sides) i;obtain⟨j1,j2⟩:=aMz ho hio;have hb:idx (cO d.Tree S must) order[i].Job=some (iI S must (dM d.Tree must order[i])):=by
   rw[yQ j1 (by rw[qO,m8];exact j2),aJv ho hio];simp only[qO,List.getElem_map]
  have hgd:order.getD i default=order[i]:=bC hio _;have hscr:qL d.Tree must order sides (i+1)=qL d.Tree must order sides i++[aZr (dM d.Tree must order[i]).1 (dM d.Tree must order[i]).2 (rG sides i),aWz (rG sides i)]:=by
   simp only[qL,aZf,hgd]
  have hgo:∀v:Int,v=(rG sides i:Int)->((bif decide ((iI S must (dM d.Tree must order[i])).Round<0) then(some true) else(some (decide ((iI S must (dM d.Tree must order[i])).Place<0)))).bind λb20=>
    bif b20 then(some false) else((bV (iI S must (dM d.Tree must order[i])).Round).bind λr21=>(lZ ([111,112,101,110,32]:Str) r21).bind λx22=>(lZ x22 ([32]:Str)).bind λx23=>(bV (iI S must (dM d.Tree must order[i])).Place).bind λr24=>(lZ x23 r24).bind λx25=>(lZ x25 ([32]:Str)).bind λx26=>
     (bV v).bind λr27=>(lZ x26 r27).bind λx28=>(bV v).bind λr29=>(lZ ([114,101,116,105,114,101,32]:Str) r29).bind λx30=>(app 16 (qL d.Tree must order sides i) ([x28,x30])).bind λx31=>(eH sides (cO d.Tree S must) order d k) (w64 ((i:Int)+1)) x31))=
    lB order d (qL d.Tree must order sides order.length):=by
   intro v hv;have e1:decide ((iI S must (dM d.Tree must order[i])).Round<0)=false:=j6 (by simp only[iI];omega);have e2:decide ((iI S must (dM d.Tree must order[i])).Place<0)=false:=j6 (by simp only[iI];omega);rw[e1,e2,g6,c6,g6];refine(cGk m1 m2 hsd hv (λx28 x30=>(app 16 (qL d.Tree must order sides i) ([x28,x30])).bind λx31=>(eH sides (cO d.Tree S must) order d k) (w64 ((i:Int)+1)) x31)).trans ?_;rw[gD (by simp;omega),c6,bF (by omega),<-hscr];exact ih (i+1) k (by omega) (by omega) (by omega)
  simp only[eH,m6,hio,j4,i7];rw[bI hio,c6,hb,c6];have hside:=bXq sides i;simp only[m6] at hside;rw[hside,c6]
  rcases(show rG sides i=0\/rG sides i=1 by omega) with h|h
  ·rw[h,j6 (by decide),g6];exact hgo 0 (by rw[h];rfl)
  ·rw[h,n7 rfl,i7];exact hgo 1 (by rw[h];rfl)
include ht hst hds
theorem cMy(hT:TI d.Tree S (oN d.Tree must) [] [])(hD:aQv d)(hc:sB d=some 0):lB order d (qL d.Tree must order sides order.length)=some true:=by
 have hlen:=aJu (t:=d.Tree) (must:=must) (order:=order) (sides:=sides) order.length;have hL:(qL d.Tree must order sides order.length++[wR,wQ]).length=2*order.length+2:=by simp[hlen]
 obtain⟨A,sl,b,hr,hA⟩:=cCe ht hR ho hn hst hds sides order.length 0 BIG [] ⟨0,0,0,0⟩ [] rfl (aF8 _) (by have:=cB (n:=2*order.length+2) (by omega);exact this) hT ⟨rfl,rfl,λj hj=>by omega⟩;have hrun:oO d (qL d.Tree must order sides order.length++[wR,wQ])=some (A++[[48],[48]],(lA d sl b).Register,0):=by
  unfold oO;rw[hc,c6,n7 rfl,l8,g6,j6 (show¬(80:Int)<((qL d.Tree must order sides order.length++[wR,wQ]).length:Int) by rw[hL];omega),g6,bYu hD,c6];have:gI (qL d.Tree must order sides order.length++[wR,wQ]) BIG 0 (bQe d) []=some (A++[[48],[48]],lA d sl b):=hr;rw[this]
  rfl
 have hal:=hA.al;have hsn:=hA.sn;have hsl:(lA d sl b).Register.Slips=sl:=rfl;unfold lB;rw[gD (by simp[hlen];omega),c6];show((oO d (qL d.Tree must order sides order.length++[wR,wQ])).bind _)=_;rw[hrun,c6];have e1:decide (((A++[[48],[48]]:List Str).length:Int)=((qL d.Tree must order sides order.length++[wR,wQ]).length:Int))=true:=n7 (by rw[hL];simp[hal]);have e2:decide (((lA d sl b).Register.Slips.length:Int)=(order.length:Int))=true:=n7 (by rw[hsl,hsn]);simp only[j4,l8,g6,c6];rw[show([[108,101,102,116],[106,111,98,115]]:List Str)=[wR,wQ] from rfl];simp only[e1,e2,l8,g6,c6];have main:=gR (λk i=>iM order (A++[[48],[48]]) (lA d sl b).Register k i) order.length (λ_=>true) (some false) (rW (A++[[48],[48]])) ?_ ?_ BIG (cB (by omega))
 ·rw[main,show(List.range order.length).all (λ_=>true)=true by simp,i7];unfold rW;have hl2:((A++[[48],[48]]:List Str).length:Int)=((2*order.length+2:Nat):Int):=by simp[hal]
  rw[hl2,cV (by omega) (by omega),cV (by omega) (by omega),show((2*order.length+2:Nat):Int)-2=((2*order.length:Nat):Int) by omega,show((2*order.length+2:Nat):Int)-1=((2*order.length+1:Nat):Int) by omega,
   bI (by simp;omega),c6,bI (by simp;omega)]
  rw[List.getElem_append_right (by omega),List.getElem_append_right (by omega)];simp only[hal,Nat.sub_self,List.getElem_cons_zero,show 2*order.length+1-2*order.length=1 by omega,List.getElem_cons_succ,j4,i7,c6,aAb]
 ·intro k i hi;obtain⟨w,x,a1,a2,a3,a4,a5,a6⟩:=hA.at' i hi;obtain⟨l1,g1⟩:=g7.1 a1;obtain⟨l2,g2⟩:=g7.1 a2;obtain⟨l3,g3⟩:=g7.1 a3;have i1:idx (A++[[48],[48]]) (w64 (2*(i:Int)))=some [111,107]:=by
   rw[cV (by omega) (by omega),show(2*(i:Int))=((2*i:Nat):Int) by omega,bI (by simp;omega),w7 l1,g1]
  have i2:idx (A++[[48],[48]]) (w64 (w64 (2*(i:Int))+1))=some w:=by
   rw[cV (n:=2*(i:Int)) (by omega) (by omega),cV (by omega) (by omega),show(2*(i:Int)+1)=((2*i+1:Nat):Int) by omega,bI (by simp;omega),w7 l2,g2]
  have i3:idx (lA d sl b).Register.Slips (i:Int)=some x:=by rw[hsl,bI l3,g3]
  simp only[iM,m6,hi,j4,i7,i1,i2,i3,c6,l8,g6,a4,a6,j6 (show¬x.Player<0 by omega),bF (show i<9223372036854775807 by omega)]
 ·intro k;simp only[iM,Int.lt_irrefl,m5,g6]
end
theorem aHk(d:dK)(sides:List Int)(hd:aKr d)(_hs:(okL okI) sides):vE d sides=some true:=by
 obtain⟨b,hb,hs⟩:=bSu d hd;unfold vE;rw[hb,c6];cases b with
 |false=>rw[n8,i7,c6,i7,aAb];rfl
 | true=>
  obtain⟨hD,hc12,h4⟩:=hs rfl;obtain⟨e,he,hall⟩:=aUw hD;rw[hc12] at he;cases he;obtain⟨hc,⟨S,hg⟩,hv,hst⟩:=hall rfl;rw[l8,g6,c6];cases decide ((10:Int)<(sides.length:Int)) with
  |true=>rw[i7,aAb];rfl
  | false=>
   obtain⟨must,hdr,hM⟩:=sN hg;have ht:=hg.ht;have hR:d.Tree.Rounds.toNat<=2:=by
    have:=ht.len;refine aA3 λhn=>?_;have:2^3<=2^d.Tree.Rounds.toNat:=aE5 (by decide) (by omega)
    omega
   have hX:(oN d.Tree must).length<=3:=by
    have h1:(oN d.Tree must).length<=(iE d.Tree).length:=z8 _ _;have:=aJa ht
    omega
   have hO:(cO d.Tree S must).length<=3:=by rw[qO,m8];exact hX
   rw[g6,yU hg hdr hM d.Stages (by have:=hD.stages;omega),c6];have hj:wP d.Tree S must d.Stages=(eW d.Stages (cO d.Tree S must),cO d.Tree S must,0):=by
    unfold wP;rw[if_pos hst,if_neg (by omega)]
   have hvq:Py.valid ⟨d.Days,d.Rest,eW d.Stages (cO d.Tree S must)⟩=true:=by
    refine Py.jobs_valid hv hst.2 (λb hb=>?_) (by omega);obtain⟨r,p,hr,hp,rfl⟩:=aOo (z6.1 hb).1;have:=hst.1;simp only
    omega
   have hvp:=Py.VP_of hvq;have hck:oE ⟨d.Days,d.Rest,eW d.Stages (cO d.Tree S must)⟩=some 0:=by rw[Py.ref_Check_eq _ hvp.small,hvq];rfl
   obtain⟨order,f,hbest,hol,hf⟩:=bYv hvp hvq;rw[hj];have k1:decide ((3:Int)<((eW d.Stages (cO d.Tree S must)).length:Int))=false:=j6 (by rw[kM];omega);have k2:decide (((cO d.Tree S must).length:Int)=((eW d.Stages (cO d.Tree S must)).length:Int))=true:=n7 (by rw[kM]);simp only[j4,l8,g6,c6,k1,k2,hck,hbest]
   rcases hf with⟨rfl,hord⟩|rfl
   ·have hio:oQ ⟨d.Days,d.Rest,eW d.Stages (cO d.Tree S must)⟩ order=some true:=by rw[Py.IsOrder_eq hvp _ (by omega),hord]
    simp only[j4,l8,g6,hio,c6];have:=cMz hR hord hol sides order.length 0 BIG rfl (aF8 _) (cB (by omega));refine this.trans ?_;exact cMy ht hR hord hol hst rfl sides (TI.nil hg hdr hM) hD hc
   ·simp only[show decide ((3:Int)=0)=false by decide,n8,i7,j4,aAb,c6]
end Go.Am
