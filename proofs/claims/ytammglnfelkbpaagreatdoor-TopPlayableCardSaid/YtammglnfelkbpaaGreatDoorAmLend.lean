/- A function that reads alone, handed what the caller owns. -/
import Derived.Test.YtammglnfelkbpaaGreatDoorAmByt
namespace Go.Am
theorem aUt[Mode]{P:Program}{f:FuncId}{args args':List AV}{objs:List MO}{Qc:AV->List MO->Prop}(hb:BVs objs args args')(hf:aX P f args' [] Qc)(hr:∀r o,Qc r o->aKn r=true):
  aX P f args objs (λr o=>o=objs/\∃o',Qc r o'):=by
 intro A w vs hinv hA hvs;have hR0:R A (fJ objs) ⟨w,[],none⟩ 0 ⟨λ_=>.any,objs⟩ {tmps:= #[],defers:=[]} w:=
  ⟨rfl,Marks.nil _ ⟨w,[],none⟩ _,λk=>.any _,hinv,Keeps.refl _ _,λm hm b o hf=>.inl ⟨m,hm,hf⟩,hA⟩
 have hvs':VRs w (aU A []) args' vs:=hb.sound hinv.holds (λb o h=>h.imp id λ⟨m,hm,_⟩=>by simp at hm) (λm hm b o hf hx=>by
  rcases hx with hx|⟨m',hm',_⟩
  ·exact hinv.apart m hm b o hf hx
  ·simp at hm') hvs
 refine(hf A w vs hinv.none hA hvs').mono ?_;rintro e w' ⟨v,r',objs',rfl,hk,hinv',hv,hnew,hq⟩;have h1:=(hR0.called hk);exact⟨v,r',objs,rfl,hk.mono λb o ⟨m,hm,_⟩=>by simp at hm,h1.inv,hv.litMove (hr r' objs' hq),λm hm b o hf=>.inl ⟨m,hm,hf⟩,rfl,objs',hq⟩
theorem bGo[Mode]{P:Program}{f:FuncId}{args:List AV}{passed:List MO}(rest:List MO){Qc:AV->List MO->Prop}(hf:aX P f args passed Qc):aX P f args (passed++rest) (λr o=>∃o',Qc r o'/\o=o'++rest):=by
 intro A w vs hinv hA hvs;have hsp:=p9.1 hinv.sep;have hlive:∀b o,aU A (passed++rest) b o↔aU (aU A rest) passed b o:=λb o=>qM b o;have hlt:∀b o,aU A rest b o->b<w.heap.size:=by
  rintro b o (h|⟨m,hm,hf⟩)
  ·exact hA b o h
  ·exact lU (hinv.holds m (i6.2 (.inr hm))) hf
 have hmo:Mono w (aU A (passed++rest)) w (aU (aU A rest) passed):=Mono.sub λb o h=>(hlive b o).2 h;have hinv0:Inv w (aU A rest) passed:=by
  refine⟨hsp.1,λm hm b o hf hx=>?_,λm hm=>cI (hinv.holds m (i6.2 (.inl hm))) (Keeps.refl (λ_ _=>False) w) (λ_ _ _ h=>h) hmo,hinv.amb.on hmo⟩
  rcases hx with hx|⟨m',hm',hf'⟩
  ·exact hinv.apart m (i6.2 (.inl hm)) b o hf hx
  ·exact hsp.2.2 m hm m' hm' b o hf hf'
 refine(hf (aU A rest) w vs hinv0 hlt (hvs.mono hmo)).mono ?_;rintro e w' ⟨v,r,objs',rfl,hk,hinv',hv,hnew,hq⟩;have hback:Mono w' (aU (aU A rest) objs') w' (aU A (objs'++rest)):=Mono.sub λb o h=>(qM b o).1 h;have hR0:R A (fJ (passed++rest)) ⟨w,[],none⟩ 0 ⟨λ_=>.any,passed++rest⟩ {tmps:= #[],defers:=[]} w:=
  ⟨rfl,Marks.nil _ ⟨w,[],none⟩ _,λk=>.any _,hinv,Keeps.refl _ _,λm hm b o hf=>.inl ⟨m,hm,hf⟩,hA⟩
 have hR2:R A (fJ (passed++rest)) ⟨w,[],none⟩ 0 ⟨λ_=>.any,objs'++rest⟩ {tmps:= #[],defers:=[]} w':=by
  refine hR0.change hk (λb o ⟨m,hm,hf⟩=>⟨m,i6.2 (.inl hm),hf⟩) (λb o hb hx=>?_) ?_ λhm m hmm=>?_
  ·rcases kT.1 hx with⟨m,hm,hf⟩|⟨m,hm,hf⟩
   ·rcases hnew m hm b o hf with⟨m',hm',hf'⟩|h
    ·exact⟨m',i6.2 (.inl hm'),hf'⟩
    ·omega
   ·exact⟨m,i6.2 (.inr hm),hf⟩
  ·refine p9.2 ⟨hinv'.sep,hsp.2.1,λx hx y hy b o h1 h2=>?_⟩;exact hinv'.apart x hx b o h1 (.inr ⟨y,hy,h2⟩)
  ·rcases i6.1 hmm with h|h
   ·exact cI (hinv'.holds m h) (Keeps.refl (λ_ _=>False) w') (λ_ _ _ h=>h) hback
   ·exact cI (hinv.holds m (i6.2 (.inr h))) hk (λb o hf ⟨m',hm',hf'⟩=>hsp.2.2 m' hm' m h b o hf' hf) hm
 refine⟨v,r,objs'++rest,rfl,hR2.keeps,hR2.inv,hv.mono hback,λm hm b o hf=>?_,objs',hq,rfl⟩;exact hR2.own m hm b o hf
theorem bTu[Mode]{P:Program}{f:FuncId}{args args':List AV}{objs:List MO}{Q:AV->List MO->Prop}(hb:∀w X vs,VRs w X args vs->VRs w X args' vs)(h:aX P f args' objs Q):aX P f args objs Q:=
 λA w vs h1 h2 h3=>h A w vs h1 h2 (hb _ _ _ h3)
theorem BVs.app{fs:List MO}{ys zs:List AV}(h:BVs fs ys zs):∀xs:List AV,BVs fs (xs++ys) (xs++zs)
 |[]=>h
 |_::xs=>.cons (.same _) (h.app xs)
def aDy{α:Type}(o:Option α)(P:α->Prop):Prop:=∀r,o=some r->P r
theorem aIe{α:Type}{P:α->Prop}{a:α}(h:P a):aDy (some a) P:=λr e=>by cases e;exact h
theorem aTt{α β:Type}{P:β->Prop}{o:Option α}{f:α->Option β}(h:∀a,aDy (f a) P):aDy (o.bind f) P:=λr e=>by
 cases o with
 |none=>cases e
 |some a=>exact h a r e
theorem bJg{α β:Type}{P:β->Prop}{Q:α->Prop}{o:Option α}{f:α->Option β}(h0:aDy o Q)(h:∀a,Q a->aDy (f a) P):aDy (o.bind f) P:=λr e=>by
 cases o with
 |none=>cases e
 |some a=>exact h a (h0 a rfl) r e
theorem aTu{α:Type}{P:α->Prop}{c:Bool}{x y:Option α}(h1:aDy x P)(h2:aDy y P):aDy (bif c then x else y) P:=by cases c<;>assumption
end Go.Am
