/- Objects in bundles; what a call is not handed. -/
import Derived.Test.YtammglnfelkbpaaGreatDoorAmX18
namespace Go.Am
theorem zT[Mode]{P:Program}{f:FuncId}{args:List AV}{objs:List MO}{Q:AV->List MO->Prop}(E:List MO)(h:aX P f args objs Q):aX P f args (objs++E) (λr o=>∃o',Q r o'/\o=o'++E):=by
 intro A w vs hinv hA hvs;have hsp:=p9.1 hinv.sep;have hlive:∀b o,aU A (objs++E) b o↔aU (aU A E) objs b o:=λb o=>qM b o;have hlt:∀b o,aU A E b o->b<w.heap.size:=by
  rintro b o (h|⟨m,hm,hf⟩)
  ·exact hA b o h
  ·exact lU (hinv.holds m (i6.2 (.inr hm))) hf
 have hmo:Mono w (aU A (objs++E)) w (aU (aU A E) objs):=Mono.sub λb o h=>(hlive b o).2 h;have hinv0:Inv w (aU A E) objs:=by
  refine⟨hsp.1,λm hm b o hf hx=>?_,λm hm=>cI (hinv.holds m (i6.2 (.inl hm))) (Keeps.refl (λ_ _=>False) w) (λ_ _ _ h=>h) hmo,hinv.amb.on hmo⟩
  rcases hx with hx|⟨m',hm',hf'⟩
  ·exact hinv.apart m (i6.2 (.inl hm)) b o hf hx
  ·exact hsp.2.2 m hm m' hm' b o hf hf'
 refine(h (aU A E) w vs hinv0 hlt (hvs.mono hmo)).mono ?_;rintro e w' ⟨v,r,objs',rfl,hk,hinv',hv,hnew,hq⟩;have hback:Mono w' (aU (aU A E) objs') w' (aU A (objs'++E)):=Mono.sub λb o h=>(qM b o).1 h;have hm:Mono w (aU A (objs++E)) w' (aU A (objs'++E)):=lR hk (λb o ⟨m,hm,hf⟩=>.inr ⟨m,i6.2 (.inl hm),hf⟩) λb o hb hx=>by
  rcases hx with hx|⟨m,hm,hf⟩
  ·exact .inl hx
  ·rcases i6.1 hm with hm|hm
   ·rcases hnew m hm b o hf with⟨m',hm',hf'⟩|h
    ·exact .inr ⟨m',i6.2 (.inl hm'),hf'⟩
    ·omega
   ·exact .inr ⟨m,i6.2 (.inr hm),hf⟩
 refine⟨v,r,objs'++E,rfl,hk.mono λb o ⟨m,hm,hf⟩=>⟨m,i6.2 (.inl hm),hf⟩,⟨?_,λm hm b o hf hx=>?_,λm hmm=>?_,hinv'.amb.on hback⟩,hv.mono hback,λm hm b o hf=>?_,objs',hq,rfl⟩
 ·exact p9.2 ⟨hinv'.sep,hsp.2.1,λx hx y hy b o h1 h2=>hinv'.apart x hx b o h1 (.inr ⟨y,hy,h2⟩)⟩
 ·rcases i6.1 hm with hm|hm
  ·exact hinv'.apart m hm b o hf (.inl hx)
  ·exact hinv.apart m (i6.2 (.inr hm)) b o hf hx
 ·rcases i6.1 hmm with h|h
  ·exact cI (hinv'.holds m h) (Keeps.refl (λ_ _=>False) w') (λ_ _ _ h=>h) hback
  ·exact cI (hinv.holds m (i6.2 (.inr h))) hk (λb o hf ⟨m',hm',hf'⟩=>hsp.2.2 m' hm' m h b o hf' hf) hm
 ·rcases i6.1 hm with hm|hm
  ·exact(hnew m hm b o hf).imp (λ⟨m',hm',hf'⟩=>⟨m',i6.2 (.inl hm'),hf'⟩) id
  ·exact .inl ⟨m,i6.2 (.inr hm),hf⟩
def Same[Mode](O1 O2:List MO):Prop:=fJ O1=fJ O2/\∀(w:World) (A:aR),Inv w A O1->Inv w A O2
theorem Same.trans[Mode]{a b c:List MO}(h:Same a b)(k:Same b c):Same a c:=⟨h.1.trans k.1,λw A hi=>k.2 w A (h.2 w A hi)⟩
theorem Same.refl[Mode](a:List MO):Same a a:=⟨rfl,λ_ _ h=>h⟩
theorem xM{A:aR}{a b:List MO}(h:fJ a=fJ b):aU A a=aU A b:=by
 funext x y
 simp only[aU,h]
theorem Same.perm[Mode]{a b:List MO}(h:a.Perm b):Same a b:=by
 have hf:fJ a=fJ b:=by
  funext x y
  exact propext ⟨λ⟨m,hm,hx⟩=>⟨m,h.mem_iff.1 hm,hx⟩,λ⟨m,hm,hx⟩=>⟨m,h.mem_iff.2 hm,hx⟩⟩
 refine⟨hf,λw A hi=>⟨?_,λm hm=>hi.apart m (h.mem_iff.2 hm),λm hm=>xM hf▸hi.holds m (h.mem_iff.2 hm),xM hf▸hi.amb⟩⟩;exact h.pairwise hi.sep λhxy b o h1 h2=>hxy b o h2 h1
theorem wA[Mode]{P:Program}{f:FuncId}{args:List AV}{O1 O2:List MO}{Q:AV->List MO->Prop}(hs:Same O1 O2)(h:aX P f args O2 Q):aX P f args O1 Q:=by
 intro A w vs hinv hA hvs;rw[xM hs.1] at hvs;rw[hs.1];exact h A w vs (hs.2 w A hinv) hA hvs
theorem vZ[Mode]{P:Program}{f:FuncId}{args:List AV}{O:List MO}{Q Q':AV->List MO->Prop}(h:aX P f args O Q)(hq:∀r o,Q r o->∃o2,Same o o2/\Q' r o2):aX P f args O Q':=by
 intro A w vs hinv hA hvs;refine(h A w vs hinv hA hvs).mono ?_;rintro e w' ⟨v,r,o,rfl,hk,hi,hv,hnew,hq'⟩;obtain⟨o2,hs,h2⟩:=hq r o hq';refine⟨v,r,o2,rfl,hk,hs.2 _ _ hi,xM hs.1▸hv,λm hm b o hf=>?_,h2⟩;have:fJ o2 b o:=⟨m,hm,hf⟩;rw[<-hs.1] at this;obtain⟨m',hm',hf'⟩:=this;exact hnew m' hm' b o hf'
def bx(p:(Nat×Nat)×List D):MO:=.box p.1.1 p.1.2 p.2
def cOg(w:World)(X:aR)(p:(Nat×Nat)×List D):Prop:=∃vs,DRs w X p.2 vs/\cellsAt w p.1.1 p.1.2 vs/\∀j,j<p.2.length->w.frozen? ⟨p.1.1,p.1.2+j,none⟩=false
def ns(L:List ((Nat×Nat)×List D)):MO:=.ext (fJ (L.map bx)) λw X=>Sep (L.map bx)/\∀p∈L,cOg w X p
theorem aMr{L:List ((Nat×Nat)×List D)}{O:List MO}:fJ (ns L::O)=fJ (L.map bx++O):=by
 funext b o
 refine propext ⟨?_,λh=>?_⟩
 ·rintro⟨m,hm,hf⟩
  rcases l4.1 hm with rfl|hm
  ·exact kT.2 (.inl hf)
  ·exact kT.2 (.inr ⟨m,hm,hf⟩)
 ·rcases kT.1 h with h|⟨m,hm,hf⟩
  ·exact⟨ns L,aD6,h⟩
  ·exact⟨m,j5 _ hm,hf⟩
theorem cGx[Mode](L:List ((Nat×Nat)×List D))(O:List MO):Same (ns L::O) (L.map bx++O):=by
 refine⟨aMr,λw A hi=>?_⟩;obtain⟨hnd,hbox⟩:=(hi.holds _ aD6).2 w _ (Mono.refl _ _) (Keeps.refl _ _);have hsp:=aC5.1 hi.sep;have hin:∀{m},m∈L.map bx->∀b o,m.foot b o->(ns L).foot b o:=λhm b o hf=>⟨_,hm,hf⟩;refine⟨p9.2 ⟨hnd,hsp.2,λx hx y hy b o h1 h2=>hsp.1 y hy b o (hin hx b o h1) h2⟩,λm hm b o hf hx=>?_,λm hm=>?_,xM (aMr (L:=L) (O:=O))▸hi.amb⟩
 ·rcases i6.1 hm with hm|hm
  ·exact hi.apart _ aD6 b o (hin hm b o hf) hx
  ·exact hi.apart m (j5 _ hm) b o hf hx
 ·rw[<-xM (aMr (L:=L) (O:=O))]
  rcases i6.1 hm with hm|hm
  ·obtain⟨p,hp,rfl⟩:=l5.1 hm;exact hbox p hp
  ·exact hi.holds m (j5 _ hm)
theorem cBl[Mode](L:List ((Nat×Nat)×List D))(O:List MO):Same (L.map bx++O) (ns L::O):=by
 refine⟨aMr.symm,λw A hi=>?_⟩;have hsp:=p9.1 hi.sep;have hl:=xM (A:=A) (aMr (L:=L) (O:=O));have hb:∀p∈L,(bx p).holds w (aU A (L.map bx++O)):=λp hp=>hi.holds _ (i6.2 (.inl (l5.2 ⟨p,hp,rfl⟩)));refine⟨aC5.2 ⟨?_,hsp.2.1⟩,λm hm b o hf hx=>?_,λm hm=>?_,hl▸hi.amb⟩
 ·rintro y hy b o ⟨m,hm,h1⟩ h2;exact hsp.2.2 m hm y hy b o h1 h2
 ·rcases l4.1 hm with rfl|hm
  ·obtain⟨m,hm,hf⟩:=hf;exact hi.apart m (i6.2 (.inl hm)) b o hf hx
  ·exact hi.apart m (i6.2 (.inr hm)) b o hf hx
 ·rw[hl]
  rcases l4.1 hm with rfl|hm
  ·refine⟨?_,λw' X' hm hk=>⟨hsp.1,λp hp=>?_⟩⟩
   ·rintro b o ⟨m,hm,hf⟩;obtain⟨p,hp,rfl⟩:=l5.1 hm;exact lU (hb p hp) hf
   ·exact cI (m:=bx p) (hb p hp) hk (λb o hf hz=>hz ⟨bx p,l5.2 ⟨p,hp,rfl⟩,hf⟩) hm
  ·exact hi.holds m (i6.2 (.inr hm))
end Go.Am
