/- A function that reads alone, handed what the caller owns. -/
import Derived.Test.YtdebnakalmnnpaaGreatDoorAmByt
namespace Go.Am
theorem bGa[Mode]{P:Program}{f:FuncId}{args:List AV}{passed:List MO}(rest:List MO){Qc:AV->List MO->Prop}(hf:bC P f args passed Qc):bC P f args (passed++rest) (λr o=>∃o',Qc r o'/\o=o'++rest):=by
 intro A w vs hinv hA hvs;have hsp:=List.pairwise_append.1 hinv.sep;have hlive:∀b o,aT A (passed++rest) b o↔aT (aT A rest) passed b o:=λb o=>rB b o;have hlt:∀b o,aT A rest b o->b<w.heap.size:=by
  rintro b o (h|⟨m,hm,hf⟩)
  ·exact hA b o h
  ·exact nE (hinv.holds m (List.mem_append.2 (.inr hm))) hf
 have hmo:Mono w (aT A (passed++rest)) w (aT (aT A rest) passed):=Mono.sub λb o h=>(hlive b o).2 h;have hinv0:Inv w (aT A rest) passed:=by
  refine⟨hsp.1,λm hm b o hf hx=>?_,λm hm=>bW (hinv.holds m (List.mem_append.2 (.inl hm))) (Keeps.refl (λ_ _=>False) w) (λ_ _ _ h=>h) hmo,hinv.amb.on hmo⟩
  rcases hx with hx|⟨m',hm',hf'⟩
  ·exact hinv.apart m (List.mem_append.2 (.inl hm)) b o hf hx
  ·exact hsp.2.2 m hm m' hm' b o hf hf'
 refine(hf (aT A rest) w vs hinv0 hlt (hvs.mono hmo)).mono ?_;rintro e w' ⟨v,r,objs',rfl,hk,hinv',hv,hnew,hq⟩;have hback:Mono w' (aT (aT A rest) objs') w' (aT A (objs'++rest)):=Mono.sub λb o h=>(rB b o).1 h;have hR0:R A (fJ (passed++rest)) ⟨w,[],none⟩ 0 ⟨λ_=>.any,passed++rest⟩ {tmps:= #[],defers:=[]} w:=
  ⟨rfl,Marks.nil _ ⟨w,[],none⟩ _,λk=>.any _,hinv,Keeps.refl _ _,λm hm b o hf=>.inl ⟨m,hm,hf⟩,hA⟩
 have hR2:R A (fJ (passed++rest)) ⟨w,[],none⟩ 0 ⟨λ_=>.any,objs'++rest⟩ {tmps:= #[],defers:=[]} w':=by
  refine hR0.change hk (λb o ⟨m,hm,hf⟩=>⟨m,List.mem_append.2 (.inl hm),hf⟩) (λb o hb hx=>?_) ?_ λhm m hmm=>?_
  ·rcases kM.1 hx with⟨m,hm,hf⟩|⟨m,hm,hf⟩
   ·rcases hnew m hm b o hf with⟨m',hm',hf'⟩|h
    ·exact⟨m',List.mem_append.2 (.inl hm'),hf'⟩
    ·omega
   ·exact⟨m,List.mem_append.2 (.inr hm),hf⟩
  ·refine List.pairwise_append.2 ⟨hinv'.sep,hsp.2.1,λx hx y hy b o h1 h2=>?_⟩;exact hinv'.apart x hx b o h1 (.inr ⟨y,hy,h2⟩)
  ·rcases List.mem_append.1 hmm with h|h
   ·exact bW (hinv'.holds m h) (Keeps.refl (λ_ _=>False) w') (λ_ _ _ h=>h) hback
   ·exact bW (hinv.holds m (List.mem_append.2 (.inr h))) hk (λb o hf ⟨m',hm',hf'⟩=>hsp.2.2 m' hm' m h b o hf' hf) hm
 refine⟨v,r,objs'++rest,rfl,hR2.keeps,hR2.inv,hv.mono hback,λm hm b o hf=>?_,objs',hq,rfl⟩;exact hR2.own m hm b o hf
theorem bRp[Mode]{P:Program}{f:FuncId}{args args':List AV}{objs:List MO}{Q:AV->List MO->Prop}(hb:∀w X vs,VRs w X args vs->VRs w X args' vs)(h:bC P f args' objs Q):bC P f args objs Q:=
 λA w vs h1 h2 h3=>h A w vs h1 h2 (hb _ _ _ h3)
theorem BVs.app{fs:List MO}{ys zs:List AV}(h:BVs fs ys zs):∀xs:List AV,BVs fs (xs++ys) (xs++zs)
 |[]=>h
 |_::xs=>.cons (.same _) (h.app xs)
def aGt{α:Type}(o:Option α)(P:α->Prop):Prop:=∀r,o=some r->P r
theorem aTy{α:Type}{P:α->Prop}{a:α}(h:P a):aGt (some a) P:=λr e=>by cases e;exact h
theorem bCc{α β:Type}{P:β->Prop}{o:Option α}{f:α->Option β}(h:∀a,aGt (f a) P):aGt (o.bind f) P:=λr e=>by
 cases o with
 |none=>cases e
 |some a=>exact h a r e
theorem bXc{α β:Type}{P:β->Prop}{Q:α->Prop}{o:Option α}{f:α->Option β}(h0:aGt o Q)(h:∀a,Q a->aGt (f a) P):aGt (o.bind f) P:=λr e=>by
 cases o with
 |none=>cases e
 |some a=>exact h a (h0 a rfl) r e
theorem bCd{α:Type}{P:α->Prop}{c:Bool}{x y:Option α}(h1:aGt x P)(h2:aGt y P):aGt (bif c then x else y) P:=by cases c<;>assumption
end Go.Am
