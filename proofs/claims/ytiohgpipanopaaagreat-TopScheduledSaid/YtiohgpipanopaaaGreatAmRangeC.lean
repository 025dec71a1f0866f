/- Ranges over closures, and rounds that leave the function. -/
import Derived.Test.YtiohgpipanopaaaGreatAmRange
namespace Go.Am
def aCn(P:Program)(l:Nat)(args:List AV)(m:MO)(Q:Bool->MO->Prop):Prop:=
 ∀ (A:bH) (w:World) (vs:List Value),Inv w A [m]->(∀b o,A b o->b<w.heap.size)->VRs w (bF A [m]) args vs->
  YieldAt Fence.wide 0 P l vs.toArray w λe w'=>∃b,e=.returned (.bool b)/\∃m',Keeps (fC [m]) w w'/\Inv w' A [m']/\(∀b o,m'.foot b o->fC [m] b o\/w.heap.size<=b)/\Q b m'
def JK{S0:Type}(J K:S0->MO->Prop)(x:S0×Bool)(m:MO):Prop:=match x.2 with
 |true=>J x.1 m
 |false=>K x.1 m
section
variable{P:Program}{n d:Nat}{st:St}
theorem bTa{t l':Nat}{l:List Operand}{args:List AV}{m:MO}{rest:List MO}{Qm:Bool->MO->Prop}{ts:Array TypeId}{ty:TypeId}{pos:String}{af:Array Edge}{gd:Option (Nat×Bool)}(hd:d<n)
  (ho:st.objs=m::rest)(ht:st.env t=.d (.lit (yv l')))(ha:st.evals l=args)(hok:mW l=true)(hy:aCn P l' args m Qm):
  bBy P n ⟨some d,.call {callee:=.value (.tmp t),args:=l.toArray,argTypes:=ts},ty,pos,af,gd⟩ st (λs=>∃b m',Qm b m'/\s=⟨upd st.env d (.d (.lit (.bool b))),m'::rest⟩):=by
 subst ha;intro A M w0 a w hR K Q hK;have hvs:=aAi hR hok;have hv:a.eval (.tmp t)=yv l':=by
  have:=hR.env t;rw[ht] at this;exact this.lit
 have hs0:=hR.keeps.size;have hsep:=hR.inv.sep;rw[ho] at hsep;have hsp:=List.pairwise_cons.1 hsep;have hmm:m∈st.objs:=by rw[ho];simp
 have hrr:∀x∈rest,x∈st.objs:=λx hx=>by rw[ho];simp[hx]
 have hlive:∀b o,bF A st.objs b o↔bF (bF A rest) [m] b o:=by
  intro b o;rw[ho,show m::rest=[m]++rest from rfl];exact vT b o
 have hlt:∀b o,bF A rest b o->b<w.heap.size:=by
  rintro b o (h|⟨x,hx,hf⟩)
  ·exact Nat.lt_of_lt_of_le (hR.old b o h) hs0
  ·exact oK (hR.inv.holds x (hrr x hx)) hf
 have hmo:Mono w (bF A st.objs) w (bF (bF A rest) [m]):=Mono.sub λb o h=>(hlive b o).2 h;have hinv0:Inv w (bF A rest) [m]:=by
  refine⟨by simp[Sep],λx hx b o hf hX=>?_,λx hx=>?_⟩
  ·simp at hx;subst hx
   rcases hX with hX|⟨m',hm',hf'⟩
   ·exact hR.inv.apart x hmm b o hf hX
   ·exact hsp.1 m' hm' b o hf hf'
  ·simp at hx;subst hx
   exact bY (hR.inv.holds x hmm) (Keeps.refl (λ_ _=>False) w) (λ_ _ _ h=>h) hmo
 obtain⟨fn,tmps,assign,body,hrun,hround⟩:=hy (bF A rest) w _ hinv0 hlt (hvs.mono hmo);refine⟨λ_ _=>trivial,?_⟩;rw[Oper.semAt_eq _ _ _ (by simp)];have he:(execOp a.eval ⟨some d,.call {callee:=.value (.tmp t),args:=l.toArray,argTypes:=ts},ty,pos,af,gd⟩).run P w=.ok (.round l' fn tmps assign body) w:=by
  simp[execOp,resolve,hv,yv,Deferred.ofValue,invoke]
  simpa using hrun
 rw [he,Oper.uponIn_round];refine⟨λh=>(by cases h),?_⟩;refine RoundIn.mono (F:=Fence.wide) hround ?_;rintro e w' ⟨b0,rfl,m',hk,hinv,hnew,hq⟩;refine hK _ _ _ ⟨b0,m',hq,rfl⟩ ?_;have hback:Mono w' (bF (bF A rest) [m']) w' (bF A (m'::rest)):=Mono.sub λb o h=>(vT (l:=[m']) (l':=rest) b o).1 h;have hR2:R A M w0 n ⟨st.env,m'::rest⟩ a w':=by
  refine hR.change hk (λb o ⟨x,hx,hf⟩=>⟨x,by simp at hx;subst hx;exact hmm,hf⟩) (λb o hb hx=>?_) ?_ λhm x hxx=>?_
  ·obtain⟨x,hx,hf⟩:=hx
   rcases List.mem_cons.1 hx with rfl|hx
   ·rcases hnew b o hf with⟨x',hx',hf'⟩|h
    ·simp at hx';subst hx';exact⟨_,hmm,hf'⟩
    ·omega
   ·exact⟨x,hrr x hx,hf⟩
  ·refine List.pairwise_cons.2 ⟨λy hy b o h1 h2=>?_,hsp.2⟩;exact hinv.apart m' (by simp) b o h1 (.inr ⟨y,hy,h2⟩)
  ·rcases List.mem_cons.1 hxx with rfl|h
   ·exact bY (hinv.holds _ (by simp)) (Keeps.refl (λ_ _=>False) w') (λ_ _ _ h=>h) hback
   ·exact bY (hR.inv.holds x (hrr x h)) hk (λb o hf ⟨m',hm',hf'⟩=>by
     simp at hm';subst hm'
     exact hsp.1 x h b o hf' hf) hm
 exact R.put (o:=⟨some d,.call {callee:=.value (.tmp t),args:=l.toArray,argTypes:=ts},ty,pos,af,gd⟩) hR2 rfl hd (.d (.lit _ rfl))
end
section
variable{P:Program}{n:Nat}{st:St}{Q:Exit->St->Prop}{N:St->Prop}
theorem bBx{S S0:Type}{t:Nat}{f:FuncId}{caps:List AV}{ps:List Nat}{assign body:Code}{env:Nat->AV}(π:S->S0)(objs:S->List MO)(Y:S0->List AV->S0×Bool->Prop)(s0:S)(x0:S0)(x1:S0×Bool)
  (he:Ent st ⟨env,objs s0⟩)(hg:env t=.fn f caps)(hcf:∀args w,(callFunc f args).run P w=.ok (.enter f args) w)(h0:π s0=x0)
  (hps:∀p∈ps,p<n)(hna:wK assign=true)(hnb:wK body=true)
  (hI:∀(l:Nat) (J K:S0->MO->Prop),(∀x m args x',J x m->Y x args x'->aCn P l args m (λb m'=>b=x'.2/\JK J K x' m'))->∀m0,J x0 m0->dX P f (.d (.lit (yv l))::caps) [m0] (λ_ o=>∃m',JK J K x1 m'/\o=[m']))
  (hbody:∀s args x',Y (π s) args x'->args.length=ps.length/\Tr P n assign ⟨aHv env ps args,objs s⟩ (λe s1=>e=.normal/\Tr P n body s1 (λe s2=>(e=.normal/\x'.2=true\/e=.ret/\x'.2=false)/\∃s',π s'=x'.1/\s2.objs=objs s')))
  (hN:∀s,x1.2=true->π s=x1.1->Q .normal ⟨env,objs s⟩)(hX:∀s,x1.2=false->π s=x1.1->Tr P n .ret ⟨env,objs s⟩ Q):Tr P n (.rangeFunc (.tmp t) ps.toArray assign body) st Q:=by
 intro A M w0 a w hR hn;have hro:w0.ro=none:=hn.resolve_right (by simp[wK])
 replace hR:=he A M w0 n a w hR
 rw[hro];have hbv:VR w (bF A (objs s0)) (.fn f caps) (a.tmps.getD t undef):=by
  have:=hR.env t;exact hg▸this
 generalize hu:a.tmps.getD t undef=u at hbv
 cases hbv with
 |fn hl hb=>
 rename_i us
 have hev:a.eval (.tmp t)=.func (.func f) #[] us.toArray:=hu;refine wpIn_rangeFunc λfn _=>?_;obtain⟨rec,hrec⟩:∃rec:LoopState->Option Code->Loop,rec=λst pe=>{state:=st,pending:=pe,fn,tmps:=a.tmps,params:=ps.toArray,assign,body,defers:=w.heap.size}:=⟨_,rfl⟩;obtain⟨W1,hW1⟩:∃W1,(w.alloc (.deferred (some []))).alloc (.loop (rec .ready none))=W1:=⟨_,rfl⟩;have hL1:W1.heap[w.heap.size+1]?=some (.loop (rec .ready none)):=by
  rw[<-hW1];have:=World.alloc_heap_new (w.alloc (.deferred (some []))) (.loop (rec .ready none));rwa[World.size_alloc] at this
 have hD1:W1.heap[w.heap.size]?=some (.deferred (some [])):=by
  rw[<-hW1];have h1:=World.alloc_heap_new w (.deferred (some []));rw[<-h1];exact Go.heap_alloc_old _ _ (by simp)
 have hk1:Keeps (λ_ _=>False) w W1:=by rw[<-hW1];exact(Keeps.alloc _ w _).trans (Keeps.alloc _ _ _)
 have hs1:W1.heap.size=w.heap.size+2:=by rw[<-hW1];simp
 let l:=w.heap.size+1
 let dd:=w.heap.size
 let recB:Bool->Loop:=λb=>bif b then rec .ready none else rec .done (some .ret)
 let EB:Bool->S->MO:=λb s=>Est env a.tmps (objs s) l dd (recB b)
 let E:S->MO:=λs=>Est env a.tmps (objs s) l dd (rec .ready none)
 have hm1:Mono w (bF A (objs s0)) W1 (bF A [E s0]):=by
  refine nJ (objs:=objs s0) (objs':=[E s0]) hk1 (λ_ _ h=>h.elim) λb o hb hx=>?_
  rcases hx with hx|⟨m,hm,hf⟩
  ·exact .inl hx
  ·simp at hm;subst hm
   rcases hf with hf|rfl|rfl
   ·exact .inr hf
   ·show bF A (objs s0) _ o;simp only[l] at hb;omega
   ·show bF A (objs s0) _ o;simp only[dd] at hb;omega
 have hinv1:Inv W1 A [E s0]:=by
  refine⟨by simp[Sep],λm hm b o hf hA=>?_,λm hm=>?_⟩
  ·simp at hm;subst hm
   have hlt:=Nat.lt_of_lt_of_le (hR.old b o hA) hR.keeps.size
   rcases hf with⟨m,hm,hf⟩|rfl|rfl
   ·exact hR.inv.apart m hm b o hf hA
   ·simp only[l] at hlt;omega
   ·simp only[dd] at hlt;omega
  ·simp at hm;subst hm
   exact aIl ⟨⟨hR.inv.sep,λb o ⟨m,hm,hf⟩=>by
    have:=oK (hR.inv.holds m hm) hf;simp only[l,dd]
    omega⟩,λk=>(hR.env k).mono hm1,λm hm=>bY (hR.inv.holds m hm) hk1 (λ_ _ _ h=>h) hm1,hL1,hD1⟩
 have hA1:∀b o,A b o->b<W1.heap.size:=λb o h=>by
  have:=hR.old b o h;have:=hR.keeps.size
  omega
 let J:S0->MO->Prop:=λx m=>∃s,π s=x/\m=E s
 let K:S0->MO->Prop:=λx m=>∃s,π s=x/\m=EB false s
 have hround:∀x m args x',J x m->Y x args x'->aCn P l args m (λb m'=>b=x'.2/\JK J K x' m'):=by
  rintro _ _ args x' ⟨s,rfl,rfl⟩ hY A' W vs hinv hA' hvs;obtain⟨hlen,hb⟩:=hbody s args x' hY;obtain⟨⟨es,ef⟩,e1,e2,e3,e4⟩:=aQp (hinv.holds _ (List.mem_singleton.2 rfl));have hyr:=run_yield (P:=P) (args:=vs.toArray) e3 (by rw[hrec];simp[hvs.length,hlen]);rw[hrec] at hyr;have hll:l<W.heap.size:=(Array.getElem?_eq_some_iff.1 e3).1;have hdl:dd<W.heap.size:=(Array.getElem?_eq_some_iff.1 e4).1;have hld:l≠dd:=by simp only[l,dd];omega
  let Ar:bH:=λb o=>A' b o\/b=l\/b=dd
  have hset:∀s b o,bF Ar (objs s) b o↔bF A' [E s] b o:=by
   intro s b o
   constructor
   ·rintro((h|h)|h)
    ·exact .inl h
    ·exact .inr ⟨E s,by simp,.inr h⟩
    ·exact .inr ⟨E s,by simp,.inl h⟩
   ·rintro(h|⟨m,hm,hf⟩)
    ·exact .inl (.inl h)
    ·simp at hm;subst hm
     rcases hf with hf|hf
     ·exact .inr hf
     ·exact .inl (.inr hf)
  have hmX:∀W s,Mono W (bF A' [E s]) W (bF Ar (objs s)):=λW s=>Mono.sub λb o h=>(hset s b o).1 h;have hmX':∀W s,Mono W (bF Ar (objs s)) W (bF A' [E s]):=λW s=>Mono.sub λb o h=>(hset s b o).2 h;have hup:=aUe (X:=bF Ar (objs s)) (n:=n) ps args vs env a.tmps hR.size hps (hvs.mono (hmX W s)) λk=>(e1 k).mono (hmX W s);have hRr:R Ar (fC (objs s)) ⟨W,[],some l⟩ n ⟨aHv env ps args,objs s⟩ {tmps:=(ps.zip vs).foldl (λt (p,v)=>t.setIfInBounds p v) a.tmps,defers:=[]} W:=by
   refine⟨hup.2,Marks.nil _ ⟨W,[],some l⟩ _,hup.1,⟨es,λm hm b o hf hA=>?_,λm hm=>bY (e2 m hm) (Keeps.refl (λ_ _=>False) W) (λ_ _ _ h=>h) (hmX W s)⟩,Keeps.refl _ _,λm hm b o hf=>.inl ⟨m,hm,hf⟩,λb o hA=>?_⟩
   ·rcases hA with hA|hA|hA
    ·exact hinv.apart (E s) (by simp) b o (.inl ⟨m,hm,hf⟩) hA
    ·exact(ef b o ⟨m,hm,hf⟩).1 hA
    ·exact(ef b o ⟨m,hm,hf⟩).2 hA
   ·rcases hA with hA|rfl|rfl
    ·exact hA' b o hA
    ·exact hll
    ·exact hdl
  have htm:(ps.toArray.zip vs.toArray).foldl (λ(t:Array Value) (p:Nat×Value)=>t.setIfInBounds p.1 p.2) a.tmps=(ps.zip vs).foldl (λt (p,v)=>t.setIfInBounds p v) a.tmps:=by simp
  have hyr':(Instr.yield l vs.toArray).run P W=.ok (.round l fn ((ps.zip vs).foldl (λt (p,v)=>t.setIfInBounds p v) a.tmps) assign body) W:=by
   rw[<-htm];exact hyr
  refine⟨fn,_,assign,body,hyr',roundIn_of_wpIn trivial ?_⟩;refine wpIn_mono (F:=fen (some l)) (hb Ar (fC (objs s)) ⟨W,[],some l⟩ _ W hRr (.inr hna)) ?_;rintro e a1 w1 ⟨s1,⟨rfl,hb2⟩,hR1⟩;have hl1:w1.heap[l]?=some (.loop (rec .ready none)):=(hR1.keeps.block l hll λo h=>(ef l o h).1 rfl).trans e3;have hd1:w1.heap[dd]?=some (.deferred (some [])):=(hR1.keeps.block dd hdl λo h=>(ef dd o h).2 rfl).trans e4;refine⟨_,run_beginRound hl1 (by rw[hrec]),?_⟩;obtain⟨w2,hw2⟩:∃w2,w1.putObj l (.loop {rec .ready none with state:=.busy})=w2:=⟨_,rfl⟩;rw[hw2];have hl1lt:=(Array.getElem?_eq_some_iff.1 hl1).1;have hk12:Keeps (λb _=>b=l) w1 w2:=by rw[<-hw2];exact tY λ_=>rfl
  have hm12:∀X,Mono w1 X w2 X:=λX=>by rw[<-hw2];exact vU hl1 (by simp) (by simp)
  have hl2:w2.heap[l]?=some (.loop {rec .ready none with state:=.busy}):=by rw[<-hw2];exact World.putObj_heap_same hl1lt
  have hd2:w2.heap[dd]?=some (.deferred (some [])):=by rw[<-hw2];exact(World.putObj_heap_other (Ne.symm hld)).trans hd1
  have hR2:R Ar (fC s1.objs) ⟨w2,a1.defers,some l⟩ n s1 a1 w2:=by
   refine⟨hR1.size,Marks.nil _ ⟨w2,a1.defers,some l⟩ _,λk=>(hR1.env k).mono (hm12 _),⟨hR1.inv.sep,hR1.inv.apart,λm hm=>bY (hR1.inv.holds m hm) hk12 (λb o hf e=>hR1.inv.apart m hm b o hf (.inr (.inl e))) (hm12 _)⟩,Keeps.refl _ _,λm hm b o hf=>.inl ⟨m,hm,hf⟩,λb o hA=>?_⟩;exact Nat.lt_of_lt_of_le (Nat.lt_of_lt_of_le (hR1.old b o hA) hR1.keeps.size) hk12.size
  refine wpIn_mono (F:=fen (some l)) (hb2 Ar (fC s1.objs) ⟨w2,a1.defers,some l⟩ a1 w2 hR2 (.inr hnb)) ?_;rintro e a3 w3 ⟨s2,⟨he,s',hπ,hobj⟩,hR3⟩;have hap1:∀o,¬fC s1.objs l o/\¬fC s1.objs dd o:=λo=>⟨λ⟨m,hm,hf⟩=>hR1.inv.apart m hm _ _ hf (.inr (.inl rfl)),λ⟨m,hm,hf⟩=>hR1.inv.apart m hm _ _ hf (.inr (.inr rfl))⟩;have hl3:w3.heap[l]?=some (.loop {rec .ready none with state:=.busy}):=(hR3.keeps.block l (Array.getElem?_eq_some_iff.1 hl2).1 λo h=>(hap1 o).1 h).trans hl2;have hd3:w3.heap[dd]?=some (.deferred (some [])):=(hR3.keeps.block dd (Array.getElem?_eq_some_iff.1 hd2).1 λo h=>(hap1 o).2 h).trans hd2;have hl3lt:=(Array.getElem?_eq_some_iff.1 hl3).1;obtain⟨x1',bb⟩:=x';simp only at he hπ;obtain⟨w4,hw4⟩:∃w4,w3.putObj l (.loop (recB bb))=w4:=⟨_,rfl⟩
  suffices hgoal:∃m',Keeps (fC [E s]) W w4/\Inv w4 A' [m']/\(∀b o,m'.foot b o->fC [E s] b o\/W.heap.size<=b)/\m'=EB bb s' by
   have hjk:∀m',m'=EB bb s'->JK J K (x1',bb) m':=by
    rintro _ rfl;cases bb with
    |true=>exact⟨s',hπ,rfl⟩
    |false=>exact⟨s',hπ,rfl⟩
   obtain⟨m',g1,g2,g3,g4⟩:=hgoal
   rcases he with⟨rfl,hb⟩|⟨rfl,hb⟩
   ·subst hb;have hend:=run_endRound (P:=P) none hl3;have hrec4:({({rec .ready none with state:=.busy}:Loop) with state:=if(none:Option Code).isNone then .ready else .done,pending:=none}:Loop)=recB true:=by simp only[recB];rw[hrec];rfl
    rw[hrec4,hw4] at hend;exact⟨_,_,hend,true,rfl,m',g1,g2,g3,rfl,hjk m' g4⟩
   ·subst hb;have hend:=run_endRound (P:=P) (some .ret) hl3;have hrec4:({({rec .ready none with state:=.busy}:Loop) with state:=if(some Code.ret:Option Code).isNone then .ready else .done,pending:=some .ret}:Loop)=recB false:=by simp only[recB];rw[hrec];rfl
    rw[hrec4,hw4] at hend;exact⟨_,_,hend,false,rfl,m',g1,g2,g3,rfl,hjk m' g4⟩
  refine⟨EB bb s',?_⟩;have hk34:Keeps (λb _=>b=l) w3 w4:=by rw[<-hw4];exact tY λ_=>rfl
  have hm34:∀X,Mono w3 X w4 X:=λX=>by rw[<-hw4];exact vU hl3 (by simp) (by simp)
  have hl4:w4.heap[l]?=some (.loop (recB bb)):=by rw[<-hw4];exact World.putObj_heap_same hl3lt
  have hd4:w4.heap[dd]?=some (.deferred (some [])):=by rw[<-hw4];exact(World.putObj_heap_other (Ne.symm hld)).trans hd3
  have hsz2:W.heap.size<=w2.heap.size:=Nat.le_trans hR1.keeps.size hk12.size;have hkF:Keeps (fC [E s]) W w4:=by
   have k1:Keeps (fC [E s]) W w1:=hR1.keeps.mono λb o h=>⟨E s,by simp,.inl h⟩;have k2:Keeps (fC [E s]) W w2:=k1.trans (hk12.mono λb o h=>⟨E s,by simp,.inr (.inl h)⟩);have k3:Keeps (fC [E s]) W w3:=k2.weaken hR3.keeps λb o ⟨m,hm,hf⟩=>by
    rcases hR1.own m hm b o hf with h|h
    ·exact .inl ⟨E s,by simp,.inl h⟩
    ·exact .inr h
   exact k3.trans (hk34.mono λb o h=>⟨E s,by simp,.inr (.inl h)⟩)
  have hF':∀b o,Fst (objs s') l dd b o->Fst (objs s) l dd b o\/W.heap.size<=b:=by
   rintro b o (⟨m,hm,hf⟩|h)
   ·rw[<-hobj] at hm
    rcases hR3.own m hm b o hf with⟨m1,hm1,hf1⟩|h
    ·rcases hR1.own m1 hm1 b o hf1 with h|h
     ·exact .inl (.inl h)
     ·exact .inr h
    ·exact .inr (Nat.le_trans hsz2 h)
   ·exact .inl (.inr h)
  have hmW:Mono W (bF A' [E s]) w4 (bF A' [EB bb s']):=nJ (objs:=[E s]) (objs':=[EB bb s']) hkF (λb o h=>.inr h) λb o hb hx=>by
   rcases hx with hx|⟨m,hm,hf⟩
   ·exact .inl hx
   ·simp at hm;subst hm
    rcases hF' b o hf with h|h
    ·exact .inr ⟨E s,by simp,h⟩
    ·omega
  have hmR:Mono w3 (bF Ar (objs s')) w4 (bF A' [EB bb s']):=(hm34 _).trans (Mono.sub λb o h=>by
   rcases h with h|⟨m,hm,hf⟩
   ·exact .inl (.inl h)
   ·simp at hm;subst hm
    rcases hf with hf|hf
    ·exact .inr hf
    ·exact .inl (.inr hf))
  refine⟨hkF,⟨by simp[Sep],λm hm b o hf hA=>?_,λm hm=>?_⟩,λb o hf=>?_,rfl⟩
  ·simp at hm;subst hm
   rcases hf with⟨m,hm,hf⟩|hf
   ·rw[<-hobj] at hm;exact hR3.inv.apart m hm b o hf (.inl hA)
   ·exact hinv.apart (E s) (by simp) b o (.inr hf) hA
  ·simp at hm;subst hm
   refine aIl ⟨⟨by rw[<-hobj];exact hR3.inv.sep,λb o ⟨m,hm,hf⟩=>?_⟩,λk=>(e1 k).mono hmW,λm hm=>?_,hl4,hd4⟩
   ·rw[<-hobj] at hm;exact⟨λe=>hR3.inv.apart m hm b o hf (.inr (.inl e)),λe=>hR3.inv.apart m hm b o hf (.inr (.inr e))⟩
   ·rw[<-hobj] at hm;have h3:=hR3.inv.holds m hm;rw[hobj] at h3;exact bY h3 hk34 (λb o hf e=>hR3.inv.apart m hm b o hf (.inr (.inl e))) hmR
  ·rcases hF' b o hf with h|h
   ·exact .inl ⟨E s,by simp,h⟩
   ·exact .inr h
 have hbd:VRs w (bF A (objs s0)) caps us:=yM hl hb;have hargs:VRs W1 (bF A [E s0]) (.d (.lit (yv l))::caps) (yv l::us):=⟨.d (.lit _ rfl),hbd.mono hm1⟩;have hcall:=hI l J K hround (E s0) ⟨s0,h0,rfl⟩ A W1 (yv l::us) hinv1 hA1 hargs;refine⟨l,[{target:=.collected dd,args:= #[]}],W1,{target:=.fn (.func f) us.toArray,args:= #[yv l]},W1,f,(yv l::us).toArray,W1,?_,?_,λ_ _=>trivial,?_,λh=>(by cases h),?_⟩
 ·rw[<-hW1,hrec];exact run_enterLoop_outer _ _ _ _ _
 ·have hres:resolve a.eval (rangeCall (.tmp t) l) 0=Deferred.ofValue (a.eval (.tmp t)) #[yv l]:=by
   unfold resolve;have e:(#[Operand.const (.func (.yield l) #[] #[])]:Array Operand).map a.eval= #[yv l]:=by simp[yv,Act.eval]
   simp only[rangeCall,e]
  rw[hres,hev]
  simp[Deferred.ofValue,go_sem]
 ·simp[invoke,go_sem,hcf]
 ·refine CallsIn.mono ((callsIn_wide (n:=0)).2 hcall) ?_;rintro e w3 ⟨v,r,objs',rfl,hk,hinv,hv,hnew,m',hjk,rfl⟩;obtain⟨x1',bb⟩:=x1;obtain⟨s',hπ,hm'⟩:∃s',π s'=x1'/\m'=EB bb s':=by
   cases bb with
   |true=>exact hjk
   |false=>exact hjk
  subst hm';obtain⟨⟨es,ef⟩,e1,e2,e3,e4⟩:=aQp (hinv.holds _ (List.mem_singleton.2 rfl));have hld:l≠dd:=by simp only[l,dd];omega
  have hst:(recB bb).state≠.busy:=by simp only[recB];rw[hrec];cases bb<;>simp
  have hend:=run_endLoop (P:=P) e3 hst;have hpe:(recB bb).pending=bif bb then none else some .ret:=by simp only[recB];rw[hrec];cases bb<;>rfl
  rw[hpe] at hend;obtain⟨ob,hob⟩:∃ob:Loop,(Instr.endLoop l).run P w3=.ok (bif bb then none else some .ret) (w3.putObj l (.loop ob)):=⟨_,hend⟩;obtain⟨w4,hw4⟩:∃w4,w3.putObj l (.loop ob)=w4:=⟨_,rfl⟩;rw[hw4] at hob;refine⟨_,w4,hob,?_⟩;have hl3lt:=(Array.getElem?_eq_some_iff.1 e3).1;have hk34:Keeps (λb _=>b=l) w3 w4:=by rw[<-hw4];exact tY λ_=>rfl
  have hm34:∀X,Mono w3 X w4 X:=λX=>by rw[<-hw4];exact vU e3 (by simp) (by simp)
  have hd4:w4.heap[dd]?=some (.deferred (some [])):=by rw[<-hw4];exact(World.putObj_heap_other (Ne.symm hld)).trans e4
  have hmX:Mono w3 (bF A [EB bb s']) w4 (bF A (objs s')):=(hm34 _).trans (Mono.sub λb o h=>h.imp id λh=>⟨EB bb s',by simp,.inl h⟩);have hs0:=hR.keeps.size;have hF0:∀b o,Fst (objs s0) l dd b o->M b o\/w0.w.heap.size<=b:=by
   rintro b o (⟨m,hm,hf⟩|rfl|rfl)
   ·exact hR.own m hm b o hf
   ·exact .inr (by simp only[l];omega)
   ·exact .inr hs0
  have hF1:∀b o,fC (objs s') b o->Fst (objs s0) l dd b o\/W1.heap.size<=b:=λb o h=>by
   rcases hnew (EB bb s') (by simp) b o (.inl h) with⟨m,hm,hf⟩|h
   ·simp at hm;subst hm;exact .inl hf
   ·exact .inr h
  suffices hR4:R A M w0 n ⟨env,objs s'⟩ {a with defers:=[{target:=.collected dd,args:= #[]}]++a.defers} w4 by
   cases bb with
   |true=>exact⟨⟨env,objs s'⟩,hN s' rfl hπ,hR4⟩
   | false=>
    have hx:=hX s' rfl hπ A M w0 _ w4 hR4 (.inl hro);rw[hro] at hx;exact hx
  refine⟨hR.size,?_,λk=>(e1 k).mono hmX,⟨es,λm hm b o hf hA=>hinv.apart (EB bb s') (by simp) b o (.inl ⟨m,hm,hf⟩) hA,λm hm=>bY (e2 m hm) hk34 (λb o hf e=>(ef b o ⟨m,hm,hf⟩).1 e) hmX⟩,?_,λm hm b o hf=>?_,hR.old⟩
  ·obtain⟨Ds,g1,g2,g3⟩:=hR.defers;refine⟨dd::Ds,by simp[g1],List.nodup_cons.2 ⟨λhm=>?_,g2⟩,λD hD=>?_⟩
   ·have:=(Array.getElem?_eq_some_iff.1 (g3 dd hm).1).1;simp only[dd] at this;omega
   ·rcases List.mem_cons.1 hD with rfl|hD
    ·refine⟨hd4,hs0,λo ho=>?_⟩
     rcases ho with ho|ho
     ·have:=hR.old dd o ho;simp only[dd] at this;omega
     ·exact(ef dd o ho).2 rfl
    ·obtain⟨q1,q2,q3⟩:=g3 D hD;have hlt:=(Array.getElem?_eq_some_iff.1 q1).1;have hDl:D≠l/\D≠dd:=by simp only[l,dd];omega
     have hk1w:W1.heap[D]?=some (.deferred (some [])):=(hk1.block D hlt λ_ h=>h).trans q1;have hk3w:w3.heap[D]?=some (.deferred (some [])):=(hk.block D (Array.getElem?_eq_some_iff.1 hk1w).1 λo ⟨m,hm,hf⟩=>by
      simp at hm;subst hm
      rcases hf with hf|hf|hf
      ·exact q3 o (.inr hf)
      ·exact hDl.1 hf
      ·exact hDl.2 hf).trans hk1w
     have hk4w:w4.heap[D]?=some (.deferred (some [])):=(hk34.block D (Array.getElem?_eq_some_iff.1 hk3w).1 λ_ h=>hDl.1 h).trans hk3w;refine⟨hk4w,q2,λo ho=>?_⟩
     rcases ho with ho|ho
     ·exact q3 o (.inl ho)
     ·rcases hF1 D o ho with(h|h|h)|h
      ·exact q3 o (.inr h)
      ·exact hDl.1 h
      ·exact hDl.2 h
      ·omega
  ·have k1:Keeps M w0.w W1:=hR.keeps.weaken hk1 λ_ _ h=>h.elim;have k3:Keeps M w0.w w3:=k1.weaken hk λb o ⟨m,hm,hf⟩=>by
    simp at hm;subst hm;exact hF0 b o hf
   exact k3.weaken hk34 λb o h=>by subst h;exact .inr (by simp only[l];omega)
  ·rcases hF1 b o ⟨m,hm,hf⟩ with h|h
   ·exact hF0 b o h
   ·exact .inr (by omega)
theorem bBi{S S0:Type}{t:Nat}{f:FuncId}{caps:List AV}{ps:List Nat}{assign body:Code}{env:Nat->AV}(π:S->S0)(objs:S->List MO)(Y:S0->List AV->S0×Bool->Prop)(s0:S)(x0:S0)(x1:S0×Bool)
  (he:Ent st ⟨env,objs s0⟩)(hg:env t=.fn f caps)(hcf:∀args w,(callFunc f args).run P w=.ok (.enter f args) w)(h0:π s0=x0)
  (hps:(ps.all λp=>Nat.blt p n)=true)(hna:wK assign=true)(hnb:wK body=true)
  (hI:∀(l:Nat) (J K:S0->MO->Prop),(∀x m args x',J x m->Y x args x'->aCn P l args m (λb m'=>b=x'.2/\JK J K x' m'))->∀m0,J x0 m0->dX P f (.d (.lit (yv l))::caps) [m0] (λ_ o=>∃m',JK J K x1 m'/\o=[m']))
  (hbody:∀s args x',Y (π s) args x'->args.length=ps.length/\Tr P n assign ⟨aHv env ps args,objs s⟩ (jO (λs1=>Tr P n body s1 (jO (λs2=>x'.2=true/\∃s',π s'=x'.1/\Ent s2 ⟨emp,objs s'⟩) (λe s2=>e=.ret/\x'.2=false/\∃s',π s'=x'.1/\Ent s2 ⟨emp,objs s'⟩))) (λ_ _=>False)))
  (hN:∀s,x1.2=true->π s=x1.1->Q .normal ⟨env,objs s⟩)(hX:∀s,x1.2=false->π s=x1.1->Tr P n .ret ⟨env,objs s⟩ Q):Tr P n (.rangeFunc (.tmp t) ps.toArray assign body) st Q:=by
 refine bBx π objs Y s0 x0 x1 he hg hcf h0 (λp hp=>aE (List.all_eq_true.1 hps p hp)) hna hnb hI (λs args x' hy=>?_) hN hX;obtain⟨h1,h2⟩:=hbody s args x' hy;refine⟨h1,pY h2 λe s1 h=>?_⟩;obtain⟨he,h3⟩:=aYi e s1 h;refine⟨he,λA M w0 a w hR hn=>wpIn_mono (h3 A M w0 a w hR hn) ?_⟩;rintro e a' w' ⟨s2,hq,hR2⟩;have key:(e=.normal/\x'.2=true\/e=.ret/\x'.2=false)/\∃s',π s'=x'.1/\Ent s2 ⟨emp,objs s'⟩:=by
  cases e<;>first|exact⟨.inl ⟨rfl,hq.1⟩,hq.2⟩|exact⟨.inr ⟨rfl,hq.2.1⟩,hq.2.2⟩|(cases hq.1)
 obtain⟨he2,s',hs',hent⟩:=key;exact⟨⟨emp,objs s'⟩,⟨he2,s',hs',rfl⟩,hent A M w0 n a' w' hR2⟩
theorem bUd{id:Nat}{s:St}(h:N s):xA id N Q .normal s:=h
abbrev bQe{S A:Type}(e1:A->AV)(f:S->A->Option (S×Bool)):S->List AV->S×Bool->Prop:=λx args x'=>∃a,args=[e1 a]/\f x a=some x'
theorem bnf{b:Bool}(h:(!b)=false):b=true:=by cases b<;>first|rfl|cases h
theorem cAp{S0:Type}{J K:S0->MO->Prop}{x:S0×Bool}{m:MO}(h:JK J K x m)(hb:x.2=true):J x.1 m:=by
 unfold JK at h;rw[hb] at h;exact h
end
end Go.Am
