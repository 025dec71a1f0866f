/- Cards: nodes in a bundle. -/
import Derived.Test.YtammglnfelkbpaaGreatDoorCdX
namespace Go.Am
open Go.Proofs
set_option maxRecDepth 100000
set_option maxHeartbeats 4000000
attribute [local instance] aCj
structure NodeR where
 b:Nat
 o:Nat
 s:bA
 v:Value
 i:Int
 lo:Int
 hi:Int
def NodeR.ptr(x:NodeR):Value:=.pointer (some ⟨x.b,x.o,none⟩)
def NodeR.cell(x:NodeR):(Nat×Nat)×List D:=((x.b,x.o),iW x.s x.v x.i x.lo x.hi)
def nsN(L:List NodeR):MO:=ns (L.map NodeR.cell)
def NodeR.box(x:NodeR):MO:=.box x.b x.o (iW x.s x.v x.i x.lo x.hi)
theorem aJe[Mode](L:List NodeR)(O:List MO):Same (nsN L::O) (L.map NodeR.box++O):=by
 have h:=cGx (L.map NodeR.cell) O;rw[aA6] at h;exact h
theorem aBg[Mode](L:List NodeR)(O:List MO):Same (L.map NodeR.box++O) (nsN L::O):=by
 have h:=cBl (L.map NodeR.cell) O;rw[aA6] at h;exact h
def SubN(L L':List NodeR):Prop:=∀x∈L,∃y∈L',y.ptr=x.ptr/\y.s=x.s
def OkN(l:List (bA×Value))(L:List NodeR):Prop:=∀e∈l,∃x∈L,x.s=e.1/\e.2=x.ptr
theorem SubN.refl(L:List NodeR):SubN L L:=λx hx=>⟨x,hx,rfl,rfl⟩
theorem SubN.trans{a b c:List NodeR}(h:SubN a b)(k:SubN b c):SubN a c:=λx hx=>by
 obtain⟨y,hy,h1,h2⟩:=h x hx;obtain⟨z,hz,h3,h4⟩:=k y hy;exact⟨z,hz,h3.trans h1,h4.trans h2⟩
theorem OkN.sub{l:List (bA×Value)}{L L':List NodeR}(h:OkN l L)(k:SubN L L'):OkN l L':=λe he=>by
 obtain⟨x,hx,h1,h2⟩:=h e he;obtain⟨y,hy,h3,h4⟩:=k x hx;exact⟨y,hy,h4.trans h1,h2.trans h3.symm⟩
theorem zK[Mode]{P:Program}{f:FuncId}{args args':List AV}{O:List MO}{Q:AV->List MO->Prop}(ha:∀w X vs,VRs w X args vs->VRs w X args' vs)(h:aX P f args' O Q):aX P f args O Q:=
 λA w vs hi hA hv=>h A w vs hi hA (ha _ _ _ hv)
theorem bPo[Mode]{P:Program}{f:FuncId}{args:List AV}{O:List MO}{Q Q':AV->List MO->Prop}(h:aX P f args O Q)(hq:∀r o,Q r o->∃r',Q' r' o/\∀w X v,VR w X r v->VR w X r' v):aX P f args O Q':=by
 intro A w vs hinv hA hvs;refine(h A w vs hinv hA hvs).mono ?_;rintro e w' ⟨v,r,o,rfl,hk,hi,hv,hnew,hq'⟩;obtain⟨r',h1,h2⟩:=hq r o hq';exact⟨v,r',o,rfl,hk,hi,h2 _ _ _ hv,hnew,h1⟩
theorem aSt{x:NodeR}{w:World}{X:aR}{v:Value}:VR w X (.bp x.b x.o 0) v↔VR w X (.d (.lit x.ptr)) v:=aXz (o:=x.o) (j:=0)
theorem bLr(L:List NodeR)(x:NodeR)(hx:x∈L)(l:List dL)(side:Int){r:bA}(h:gU x.s side=some r):
  aX Tryz.prog 203 [.agg (rdC l),.d (.lit x.ptr),.d (.lit (.int .i64 side))] [nsN L] (λr' o'=>∃y:NodeR,y.s=r/\r'=.d (.lit y.ptr)/\o'=[nsN (y::L)]):=by
 obtain⟨L1,L2,rfl⟩:=aH0 hx;have hp:(L1++x::L2).Perm (x::(L1++L2)):=aB6;have h1:=zT ((L1++L2).map NodeR.box) (bLp x.s side x.v x.i x.lo x.hi l x.b x.o h);have hs:Same [nsN (L1++x::L2)] ([.box x.b x.o (iW x.s x.v x.i x.lo x.hi)]++(L1++L2).map NodeR.box):=by
  refine(aJe _ []).trans (Same.perm ?_);rw[aA2];exact hp.map NodeR.box
 refine zK (λw X vs hv=>?_) (bPo (vZ (wA hs h1) ?_ (Q':=λr' o'=>∃y:NodeR,y.s=r/\r'=.bp y.b y.o 0/\o'=[nsN (y::(L1++x::L2))])) ?_)
 ·match vs,hv with
  |[v1,v2,v3],⟨a,b,c,d⟩=>exact⟨a,aSt.2 b,c,d⟩
 ·rintro r' o ⟨o',⟨b',q,rfl,rfl⟩,rfl⟩;refine⟨_,?_,⟨b',q,r,.pointer (some ⟨x.b,x.o,none⟩),side,w64 (x.lo+1),w64 (x.hi+1)⟩,rfl,rfl,rfl⟩;refine Same.trans (Same.perm (b:=(((⟨b',q,r,.pointer (some ⟨x.b,x.o,none⟩),side,w64 (x.lo+1),w64 (x.hi+1)⟩:NodeR)::(L1++x::L2)).map NodeR.box)++[]) ?_) (aBg _ []);rw[aA2,j3];refine(List.Perm.swap _ _ _).trans (List.Perm.cons _ ?_);exact(hp.map NodeR.box).symm
 ·rintro r' o ⟨y,h1,rfl,h2⟩;exact⟨_,⟨y,h1,rfl,h2⟩,λw X v hv=>aSt.1 hv⟩
theorem bHd(L:List NodeR)(x:NodeR)(hx:x∈L)(l:List dL)(m:dL){r:Bool}(h:lO m x.s=some r):
  aX Tryz.prog 148 [.agg (rdC l),.agg (lQ m),.d (.lit x.ptr)] [nsN L] (λr' o'=>r'=.b r/\o'=[nsN L]):=by
 obtain⟨L1,L2,rfl⟩:=aH0 hx;have hp:(L1++x::L2).Perm (x::(L1++L2)):=aB6;have h1:=zT ((L1++L2).map NodeR.box) (bHc x.s x.v x.i x.lo x.hi l m x.b x.o h);have hs:Same [nsN (L1++x::L2)] ([.box x.b x.o (iW x.s x.v x.i x.lo x.hi)]++(L1++L2).map NodeR.box):=by
  refine(aJe _ []).trans (Same.perm ?_);rw[aA2];exact hp.map NodeR.box
 refine zK (λw X vs hv=>?_) (vZ (wA hs h1) ?_)
 ·match vs,hv with
  |[v1,v2,v3],⟨a,b,c,d⟩=>exact⟨a,b,aSt.2 c,d⟩
 ·rintro r' o ⟨o',⟨rfl,rfl⟩,rfl⟩;refine⟨_,Same.trans (Same.perm (b:=((L1++x::L2).map NodeR.box)++[]) ?_) (aBg _ []),rfl,rfl⟩;rw[aA2];exact(hp.map NodeR.box).symm
def PutN(l:List (bA×Value))(L:List NodeR)(x:NodeR)(y:List (bA×Value)×List NodeR):Prop:=
 SubN L y.2/\OkN y.1 y.2/\y.1.map (·.1)=(bif cR x.s l then l.map (·.1) else l.map (·.1)++[x.s])/\(∀e∈y.1,e∈l\/e.2=x.ptr)
theorem aKp{β:Type}{a:bA}:∀{l:List (bA×β)},cR a l=true↔a∈l.map (·.1)
 |[]=>by simp[cR]
 |(b,u)::l=>by simp[cR,aKp (a:=a) (l:=l)]
theorem bEl{β:Type}{a:bA}{z:β}:∀{l:List (bA×β)},cR a l=true->(a,bW a z l)∈l
 |[],h=>by simp[cR] at h
 | (b,u)::l,h=>by
  simp only[bW]
  by_cases hab:a=b
  ·subst hab;simp
  ·simp only[cR,hab,m5,aB0] at h;simp only[hab,m5,g6];exact j5 _ (bEl h)
theorem aNs(l:List (bA×Value))(L:List NodeR)(x:NodeR)(m:Nat)(hx:x∈L)(hl:OkN l L)(hn:∀e∈l,e.2≠x.ptr\/cR x.s l=false):
  aX Tryz.prog 146 [.d (.lit (.map (some m))),.d (.lit x.ptr)] [mx m false (dR l),nsN L] (λr' o'=>∃y,PutN l L x y/\r'=.tup []/\o'=[mx m false (dR y.1),nsN y.2]):=by
 have hargs:∀w X vs,VRs w X [AV.d (.lit (.map (some m))),.d (.lit x.ptr)] vs->VRs w X [AV.d (.lit (.map (some m))),.bp x.b x.o 0] vs:=λw X vs hv=>by
  match vs,hv with
  |[v1,v2],⟨a,b,c⟩=>exact⟨a,aSt.2 b,c⟩
 cases hm:cR x.s l with
 | false=>
  obtain⟨L1,L2,rfl⟩:=aH0 hx;have hp:(L1++x::L2).Perm (x::(L1++L2)):=aB6;have h1:=zT ((L1++L2).map NodeR.box) (bHe x.s x.v x.i x.lo x.hi l m x.b x.o hm);have hs:Same [mx m false (dR l),nsN (L1++x::L2)] ([mx m false (dR l),.box x.b x.o (iW x.s x.v x.i x.lo x.hi)]++(L1++L2).map NodeR.box):=by
   refine(Same.perm (List.Perm.swap _ _ _)).trans ((aJe _ _).trans (Same.perm ?_));refine(u9).trans (List.Perm.cons _ ?_);exact hp.map NodeR.box
  refine zK hargs (vZ (wA hs h1) ?_);rintro r' o ⟨o',⟨rfl,rfl⟩,rfl⟩;refine⟨_,Same.trans (Same.perm ?_) ((aBg (L1++x::L2) [mx m false (dR (l++[(x.s,.pointer (some ⟨x.b,x.o,none⟩))]))]).trans (Same.perm (List.Perm.swap _ _ _))),(l++[(x.s,x.ptr)],L1++x::L2),⟨SubN.refl _,λe he=>?_,?_,λe he=>?_⟩,rfl,rfl⟩
  ·refine List.Perm.trans (List.Perm.cons _ ?_) (u9 (l₁:=[_]));exact(hp.map NodeR.box).symm
  ·rcases i6.1 he with he|he
   ·exact hl e he
   ·rw[l7.1 he];exact⟨x,hx,rfl,rfl⟩
  ·rw[hm];simp
  ·rcases i6.1 he with he|he
   ·exact .inl he
   ·rw[l7.1 he];exact .inr rfl
 | true=>
  have hg:=bEl (z:=(.pointer none:Value)) hm;obtain⟨y,hy,hys,hyp⟩:=hl _ hg;have hxy:y.ptr≠x.ptr:=by
   rcases hn _ hg with h|h
   ·rw[<-hyp];exact h
   ·rw[hm] at h;cases h
  obtain⟨L1,L2,rfl⟩:=aH0 hx;have hy':y∈L1++L2:=by
   rcases i6.1 hy with h|h
   ·exact i6.2 (.inl h)
   ·rcases l4.1 h with rfl|h
    ·exact absurd rfl hxy
    ·exact i6.2 (.inr h)
  have hpx:(L1++x::L2).Perm (x::(L1++L2)):=aB6;obtain⟨M1,M2,hM⟩:=aH0 hy';have hpy:(L1++L2).Perm (y::(M1++M2)):=by rw[hM];exact aB6
  have hp:(L1++x::L2).Perm (x::y::(M1++M2)):=hpx.trans (hpy.cons _);have h1:=zT ((M1++M2).map NodeR.box) (bHf x.s x.v x.i x.lo x.hi y.v y.i y.lo y.hi l m x.b x.o y.b y.o hm hyp);have hs:Same [mx m false (dR l),nsN (L1++x::L2)] ([mx m false (dR l),.box x.b x.o (iW x.s x.v x.i x.lo x.hi),.box y.b y.o (iW x.s y.v y.i y.lo y.hi)]++(M1++M2).map NodeR.box):=by
   refine(Same.perm (List.Perm.swap _ _ _)).trans ((aJe _ _).trans (Same.perm ?_));refine(u9).trans (List.Perm.cons _ ?_);have:=hp.map NodeR.box;rw[j3,j3,show NodeR.box y=.box y.b y.o (iW x.s y.v y.i y.lo y.hi) by simp only[NodeR.box,hys]] at this;exact this
  refine zK hargs (vZ (wA hs h1) ?_);rintro r' o ⟨o',⟨rfl,rfl⟩,rfl⟩;refine⟨_,Same.trans (Same.perm ?_) ((aBg (x::⟨y.b,y.o,x.s,y.v,y.i,min y.lo x.lo,max y.hi x.hi⟩::(M1++M2)) [mx m false (dR l)]).trans (Same.perm (List.Perm.swap _ _ _))),(l,x::⟨y.b,y.o,x.s,y.v,y.i,min y.lo x.lo,max y.hi x.hi⟩::(M1++M2)),?_,rfl,rfl⟩
  ·exact u9 (l₁:=[mx m false (dR l)])
  ·have hsub:SubN (L1++x::L2) (x::(⟨y.b,y.o,x.s,y.v,y.i,min y.lo x.lo,max y.hi x.hi⟩:NodeR)::(M1++M2)):=λz hz=>by
    have hz':=hp.mem_iff.1 hz
    rcases l4.1 hz' with rfl|hz'
    ·exact⟨z,by simp,rfl,rfl⟩
    ·rcases l4.1 hz' with rfl|hz'
     ·exact⟨_,j5 _ aD6,rfl,hys.symm⟩
     ·exact⟨z,j5 _ (j5 _ hz'),rfl,rfl⟩
   refine⟨hsub,hl.sub hsub,?_,λe he=>.inl he⟩;rw[hm];rfl
theorem aXq[Mode]{P:Program}{f:FuncId}{args:List AV}{O:List MO}{Q Q':AV->List MO->Prop}(h:aX P f args O Q)(hq:∀r o w A,Inv w A o->Q r o->Q' r o):aX P f args O Q':=by
 intro A w vs hinv hA hvs;refine(h A w vs hinv hA hvs).mono ?_;rintro e w' ⟨v,r,o,rfl,hk,hi,hv,hnew,hq'⟩;exact⟨v,r,o,rfl,hk,hi,hv,hnew,hq _ _ _ _ hi hq'⟩
theorem bPn[Mode]{P:Program}{f:FuncId}{args:List AV}{O:List MO}{Q:AV->List MO->Prop}(h:∀w A,Inv w A O->aX P f args O Q):aX P f args O Q:=
 λA w vs hi hA hv=>h w A hi A w vs hi hA hv
theorem bEq[Mode]{w:World}{A:aR}{L:List NodeR}{O:List MO}(hi:Inv w A O)(hm:nsN L∈O):L.Pairwise λx y=>x.ptr≠y.ptr:=by
 obtain⟨hs,_⟩:=(hi.holds _ hm).2 w _ (Mono.refl _ _) (Keeps.refl _ _);rw[Sep,aA6,List.pairwise_map] at hs;refine hs.imp ?_;intro x y hxy he;simp only[NodeR.ptr,Value.pointer.injEq,m7,Addr.mk.injEq,and_true] at he;refine hxy x.b x.o ⟨rfl,n5 _,?_⟩ ⟨he.1,by simp[NodeR.cell,he.2],?_⟩
 ·simp[NodeR.cell,iW]
 ·simp[NodeR.cell,iW,he.2]
theorem bLq(L:List NodeR)(x:NodeR)(hx:x∈L)(l:List dL)(side:Int){r:bA}(h:gU x.s side=some r):
  aX Tryz.prog 203 [.agg (rdC l),.d (.lit x.ptr),.d (.lit (.int .i64 side))] [nsN L] (λr' o'=>∃y:NodeR,(y.s=r/\∀z∈L,y.ptr≠z.ptr)/\r'=.d (.lit y.ptr)/\o'=[nsN (y::L)]):=by
 refine aXq (bLr L x hx l side h) ?_;rintro r' o w A hi ⟨y,h1,h2,rfl⟩;have:=bEq hi (L:=y::L) (by simp);exact⟨y,⟨h1,(aC5.1 this).1⟩,h2,rfl⟩
theorem aYh(l:List (bA×Value))(L:List NodeR)(x:NodeR)(m:Nat)(hl:OkN l L):
  aX Tryz.prog 146 [.d (.lit (.map (some m))),.bp x.b x.o 0] [mx m false (dR l),nsN L,x.box] (λr' o'=>∃y,PutN l (x::L) x y/\r'=.tup []/\o'=[mx m false (dR y.1),nsN y.2]):=by
 have hs:Same [mx m false (dR l),nsN L,x.box] [mx m false (dR l),nsN (x::L)]:=by
  refine(Same.perm (List.Perm.swap _ _ _)).trans ((aJe _ _).trans (Same.trans (Same.perm (b:=(x::L).map NodeR.box++[mx m false (dR l)]) ?_) ((aBg _ _).trans (Same.perm (List.Perm.swap _ _ _)))));rw[j3];refine(u9 (l₂:=[mx m false (dR l),x.box])).trans ?_;refine(List.Perm.swap _ _ _).trans (List.Perm.cons _ ?_);exact u9 (l₁:=[_])
 refine wA hs (bPn λw A hi=>?_);have ha:=bEq hi (L:=x::L) (by simp);refine zK (λw X vs hv=>?_) (aNs l (x::L) x m (by simp) (hl.sub λz hz=>⟨z,j5 _ hz,rfl,rfl⟩) λe he=>.inl ?_)
 ·match vs,hv with
  |[v1,v2],⟨a,b,c⟩=>exact⟨a,aSt.1 b,c⟩
 ·obtain⟨z,hz,_,h2⟩:=hl e he;rw[h2];exact((aC5.1 ha).1 z hz).symm
end Go.Am
