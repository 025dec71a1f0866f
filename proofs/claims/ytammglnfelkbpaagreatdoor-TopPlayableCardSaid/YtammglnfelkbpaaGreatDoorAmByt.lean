/- Several texts, one behind the other. -/
import Derived.Test.YtammglnfelkbpaaGreatDoorAmX3
import Derived.RangeFuncSeq
import Derived.Test.YtammglnfelkbpaaGreatDoorAmFam2
import Derived.Sort.OwnSortedInts
import Derived.Lib.BitFns
import Derived.Lib.ItoaNum
import Derived.Lib.Join
import Derived.Lib.LaidTab
import Derived.Lib.AppendIntMem
import Derived.Lib.Split
import Derived.Lib.SplitLaws
import Derived.Lib.IndexMore
import Derived.Lib.ConvBytes
import Derived.Laws.BytesArg
section
section
namespace Go.Am
def yv(l:Nat):Value:=.func (.yield l) #[] #[]
def aLx[Mode](P:Program)(l:Nat)(args:List AV)(m:MO)(Q:MO->Prop):Prop:=
 ∀ (A:aR) (w:World) (vs:List Value),Inv w A [m]->(∀b o,A b o->b<w.heap.size)->VRs w (aU A [m]) args vs->
  YieldAt Fence.wide 0 P l vs.toArray w λe w'=>e=.returned (.bool true)/\∃m',Keeps (fJ [m]) w w'/\Inv w' A [m']/\(∀b o,m'.foot b o->fJ [m] b o\/w.heap.size<=b)/\Q m'
section
variable{P:Program}{n d:Nat}{st:St}
theorem bOl[Mode]{t l':Nat}{l:List Operand}{args:List AV}{m:MO}{rest:List MO}{Qm:MO->Prop}{ts:Array TypeId}{ty:TypeId}{pos:String}{af:Array Edge}{gd:Option (Nat×Bool)}(hd:d<n)
  (ho:st.objs=m::rest)(ht:st.env t=.d (.lit (yv l')))(ha:st.evals l=args)(hok:fU l=true)(hy:aLx P l' args m Qm):
  bPj P n ⟨some d,.call {callee:=.value (.tmp t),args:=l.toArray,argTypes:=ts},ty,pos,af,gd⟩ st (λs=>∃m',Qm m'/\s=⟨upd st.env d (.d (.lit (.bool true))),m'::rest⟩):=by
 subst ha;intro A M w0 a w hR K Q hK;have hvs:=aBd hR hok;have hv:a.eval (.tmp t)=yv l':=by
  have:=hR.env t;rw[ht] at this;exact this.lit
 have hs0:=hR.keeps.size;have hsep:=hR.inv.sep;rw[ho] at hsep;have hsp:=aC5.1 hsep;have hmm:m∈st.objs:=by rw[ho];simp
 have hrr:∀x∈rest,x∈st.objs:=λx hx=>by rw[ho];simp[hx]
 have hlive:∀b o,aU A st.objs b o↔aU (aU A rest) [m] b o:=by
  intro b o;rw[ho,show m::rest=[m]++rest from rfl];exact qM b o
 have hlt:∀b o,aU A rest b o->b<w.heap.size:=by
  rintro b o (h|⟨x,hx,hf⟩)
  ·exact u4 (hR.old b o h) hs0
  ·exact lU (hR.inv.holds x (hrr x hx)) hf
 have hmo:Mono w (aU A st.objs) w (aU (aU A rest) [m]):=Mono.sub λb o h=>(hlive b o).2 h;have hinv0:Inv w (aU A rest) [m]:=by
  refine⟨by simp[Sep],λx hx b o hf hX=>?_,λx hx=>?_,hR.inv.amb.on hmo⟩
  ·simp at hx;subst hx
   rcases hX with hX|⟨m',hm',hf'⟩
   ·exact hR.inv.apart x hmm b o hf hX
   ·exact hsp.1 m' hm' b o hf hf'
  ·simp at hx;subst hx
   exact cI (hR.inv.holds x hmm) (Keeps.refl (λ_ _=>False) w) (λ_ _ _ h=>h) hmo
 obtain⟨fn,tmps,assign,body,hrun,hround⟩:=hy (aU A rest) w _ hinv0 hlt (hvs.mono hmo);refine⟨λ_ _=>trivial,?_⟩;rw[Oper.semAt_eq _ _ _ (by simp)];have he:(execOp a.eval ⟨some d,.call {callee:=.value (.tmp t),args:=l.toArray,argTypes:=ts},ty,pos,af,gd⟩).run P w=.ok (.round l' fn tmps assign body) w:=by
  simp[execOp,resolve,hv,yv,Deferred.ofValue,invoke]
  simpa using hrun
 rw [he,Oper.uponIn_round];refine⟨λh=>(by cases h),?_⟩;refine RoundIn.mono (F:=Fence.wide) hround ?_;rintro e w' ⟨rfl,m',hk,hinv,hnew,hq⟩;refine hK _ _ _ ⟨m',hq,rfl⟩ ?_;have hback:Mono w' (aU (aU A rest) [m']) w' (aU A (m'::rest)):=Mono.sub λb o h=>(qM (l:=[m']) (l':=rest) b o).1 h;have hR2:R A M w0 n ⟨st.env,m'::rest⟩ a w':=by
  refine hR.change hk (λb o ⟨x,hx,hf⟩=>⟨x,by simp at hx;subst hx;exact hmm,hf⟩) (λb o hb hx=>?_) ?_ λhm x hxx=>?_
  ·obtain⟨x,hx,hf⟩:=hx
   rcases l4.1 hx with rfl|hx
   ·rcases hnew b o hf with⟨x',hx',hf'⟩|h
    ·simp at hx';subst hx';exact⟨_,hmm,hf'⟩
    ·omega
   ·exact⟨x,hrr x hx,hf⟩
  ·refine aC5.2 ⟨λy hy b o h1 h2=>?_,hsp.2⟩;exact hinv.apart m' (by simp) b o h1 (.inr ⟨y,hy,h2⟩)
  ·rcases l4.1 hxx with rfl|h
   ·exact cI (hinv.holds _ (by simp)) (Keeps.refl (λ_ _=>False) w') (λ_ _ _ h=>h) hback
   ·exact cI (hR.inv.holds x (hrr x h)) hk (λb o hf ⟨m',hm',hf'⟩=>by
     simp at hm';subst hm'
     exact hsp.1 x h b o hf' hf) hm
 exact R.put (o:=⟨some d,.call {callee:=.value (.tmp t),args:=l.toArray,argTypes:=ts},ty,pos,af,gd⟩) hR2 rfl hd (.d (.lit _ rfl))
theorem bXj[Mode]{f:FuncId}{first:List Operand}{cs:List AV}{ty:TypeId}{pos:String}{af:Array Edge}{gd:Option (Nat×Bool)}(hd:d<n)(hc:st.evals first=cs)(hok:fU first=true):
  aQ P n ⟨some d,.makeFunc (.func f) first.toArray #[],ty,pos,af,gd⟩ st (st.set d (.mf f cs)):=
 cG rfl hd λA M w0 a w hR=>by
  have h:=aBd hR hok;rw[hc] at h;refine⟨.func (.func f) (first.map a.eval).toArray #[],by simp[execOp,Instr.makeFunc],.mf h.length λi _=>h.getD i⟩
end
def Fst(objs:List MO)(l dd:Nat):aR:=λb o=>fJ objs b o\/b=l\/b=dd
def Hst[Mode](env:Nat->AV)(tmps:Array Value)(objs:List MO)(l dd:Nat)(rec:Loop)(w:World)(X:aR):Prop:=
 (Sep objs/\∀b o,fJ objs b o->b≠l/\b≠dd)/\(∀k,VR w X (env k) (tmps.getD k undef))/\(∀m∈objs,m.holds w X)/\w.heap[l]?=some (.loop rec)/\w.heap[dd]?=some (.deferred (some []))
def Est[Mode](env:Nat->AV)(tmps:Array Value)(objs:List MO)(l dd:Nat)(rec:Loop):MO:=.ext (Fst objs l dd) (Hst env tmps objs l dd rec)
theorem bDw[Mode]{env:Nat->AV}{tmps:Array Value}{objs:List MO}{l dd:Nat}{rec:Loop}{w:World}{X:aR}(h:Hst env tmps objs l dd rec w X):(Est env tmps objs l dd rec).holds w X:=by
 obtain⟨h0,h1,h2,h3,h4⟩:=h;have hl:=(j8.1 h3).1;have hd:=(j8.1 h4).1;refine⟨λb o hf=>?_,λw' X' hm hk=>⟨h0,λk=>(h1 k).mono hm,λm hmm=>cI (h2 m hmm) hk (λb o hf hn=>hn (.inl ⟨m,hmm,hf⟩)) hm,?_,?_⟩⟩
 ·rcases hf with⟨m,hm,hf⟩|rfl|rfl
  ·exact lU (h2 m hm) hf
  ·exact hl
  ·exact hd
 ·exact(hk.block l hl λo hn=>hn (.inr (.inl rfl))).trans h3
 ·exact(hk.block dd hd λo hn=>hn (.inr (.inr rfl))).trans h4
theorem bNo[Mode]{env:Nat->AV}{tmps:Array Value}{objs:List MO}{l dd:Nat}{rec:Loop}{w:World}{X:aR}(h:(Est env tmps objs l dd rec).holds w X):Hst env tmps objs l dd rec w X:=
 h.2 w X (Mono.refl w X) (Keeps.refl _ w)
theorem aJc[Mode]{w:World}{r:Nat}{o:Obj}{Z:aR}(hz:∀o,Z r o):Keeps Z w (w.putObj r o):=by
 refine⟨rfl,rfl,rfl,by simp[World.putObj],λb hb h=>World.putObj_heap_other λe=>h 0 (e▸hz 0),λb y hb h=>?_,λb y hb h=>?_,λ_=>n5 _⟩
 ·have:(w.putObj r o).heap[b]?=w.heap[b]?:=World.putObj_heap_other λe=>h (e▸hz y);simp only[World.cell?,this]
 ·have:(w.putObj r o).heap[b]?=w.heap[b]?:=World.putObj_heap_other λe=>h (e▸hz y);simp only[World.frozen?,this]
theorem aLm{w:World}{r:Nat}{o o':Obj}{X:aR}(h:w.heap[r]?=some o')(h1:∀(c:Array Value) (e:TypeId) (z:Nat×Nat),o'≠.cells c e z)(h2:∀ms c,o'≠.map ms c):Mono w X (w.putObj r o) X:=by
 refine⟨λb y v hc hx=>⟨?_,hx⟩,λb ms c hc hx=>⟨?_,hx⟩,λb c e z hc hx=>⟨?_,hx⟩⟩
 ·by_cases hb:b=r
  ·subst hb;simp only[World.cell?,h] at hc;split at hc
   ·rename_i c e z hh;exact absurd (z7 hh) (h1 c e z)
   ·cases hc
  ·have:(w.putObj r o).heap[b]?=w.heap[b]?:=World.putObj_heap_other hb;simp only[World.cell?,this] at hc|-;exact hc
 ·by_cases hb:b=r
  ·subst hb;rw[h] at hc;exact absurd (z7 hc) (h2 ms c)
  ·rw[World.putObj_heap_other hb];exact hc
 ·by_cases hb:b=r
  ·subst hb;rw[h] at hc;exact absurd (z7 hc) (h1 c e z)
  ·rw[World.putObj_heap_other hb];exact hc
def aTf(e:Nat->AV):List Nat->List AV->Nat->AV
 |p::ps,x::xs=>aTf (upd e p x) ps xs
 |_,_=>e
theorem bKy{w:World}{X:aR}{n:Nat}:∀(ps:List Nat) (xs:List AV) (vs:List Value) (e:Nat->AV) (tmps:Array Value),tmps.size=n->(∀p∈ps,p<n)->VRs w X xs vs->(∀k,VR w X (e k) (tmps.getD k undef))->
  (∀k,VR w X (aTf e ps xs k) ((((ps.zip vs).foldl (λt (p,v)=>t.setIfInBounds p v) tmps)).getD k undef))/\((ps.zip vs).foldl (λt (p,v)=>t.setIfInBounds p v) tmps).size=n
 |[],_,_,e,tmps,hs,_,_,he=>⟨by simpa[aTf] using he,by simpa using hs⟩
 |p::ps,[],[],e,tmps,hs,_,_,he=>⟨by simpa[aTf] using he,by simpa using hs⟩
 | p::ps,x::xs,v::vs,e,tmps,hs,hp,hv,he=>by
  have:=bKy ps xs vs (upd e p x) (tmps.setIfInBounds p v) (by simpa using hs) (λq hq=>hp q (by simp[hq])) hv.2 (bNl hs (hp p (by simp)) he hv.1)
  simpa[aTf] using this
 |_::_,[],_::_,_,_,_,_,hv,_=>hv.elim
 |_::_,_::_,[],_,_,_,_,hv,_=>hv.elim
abbrev rfv(cl:Bool)(f:FuncId)(bound:List AV):AV:=bif cl then .fn f bound else .mf f bound
abbrev rfa(cl:Bool)(bound:List AV)(y:AV):List AV:=bif cl then y::bound else bound++[y]
section
variable{P:Program}{n:Nat}{st:St}{Q:Exit->St->Prop}{N:St->Prop}
theorem bKw[Mode]{S S0:Type}{cl:Bool}{t:Nat}{f:FuncId}{bound:List AV}{ps:List Nat}{assign body:Code}{env:Nat->AV}(π:S->S0)(objs:S->List MO)(Y:S0->List AV->S0->Prop)(s0:S)(x0 x1:S0)
  (he:Ent st ⟨env,objs s0⟩)(hg:env t=rfv cl f bound)(hcf:∀args w,(callFunc f args).run P w=.ok (.enter f args) w)(h0:π s0=x0)
  (hps:∀p∈ps,p<n)(hna:aEk assign=true)(hnb:aEk body=true)
  (hI:∀(l:Nat) (J:S0->MO->Prop),(∀x m args x',J x m->Y x args x'->aLx P l args m (J x'))->∀m0,J x0 m0->aX P f (rfa cl bound (.d (.lit (yv l)))) [m0] (λ_ o=>∃m',J x1 m'/\o=[m']))
  (hbody:∀s args x',Y (π s) args x'->args.length=ps.length/\Tr P n assign ⟨aTf env ps args,objs s⟩ (λe s1=>e=.normal/\Tr P n body s1 (λe s2=>e=.normal/\∃s',π s'=x'/\s2.objs=objs s')))
  (hN:∀s,π s=x1->N ⟨env,objs s⟩):Tr P n (.rangeFunc (.tmp t) ps.toArray assign body) st (mM N Q):=by
 intro A M w0 a w hR hn;have hro:w0.ro=none:=hn.resolve_right (by simp[aEk])
 replace hR:=he A M w0 n a w hR
 rw[hro];have hbv:VR w (aU A (objs s0)) (rfv cl f bound) (a.tmps.getD t undef):=by
  have:=hR.env t;exact hg▸this
 obtain⟨us,hbd,hev⟩:∃us:List Value,VRs w (aU A (objs s0)) bound us/\a.eval (.tmp t)=bif cl then .func (.func f) #[] us.toArray else .func (.func f) us.toArray #[]:=by
  generalize hu:a.tmps.getD t undef=u at hbv
  cases cl with
  |true=>cases hbv with|fn hl hb=>exact⟨_,aDi hl hb,hu⟩
  |false=>cases hbv with|mf hl hb=>exact⟨_,aDi hl hb,hu⟩
 refine wpIn_rangeFunc λfn _=>?_;obtain⟨rec,hrec⟩:∃rec:LoopState->Option Code->Loop,rec=λst pe=>{state:=st,pending:=pe,fn,tmps:=a.tmps,params:=ps.toArray,assign,body,defers:=w.heap.size}:=⟨_,rfl⟩;obtain⟨W1,hW1⟩:∃W1,(w.alloc (.deferred (some []))).alloc (.loop (rec .ready none))=W1:=⟨_,rfl⟩;have hL1:W1.heap[w.heap.size+1]?=some (.loop (rec .ready none)):=by
  rw[<-hW1];have:=World.alloc_heap_new (w.alloc (.deferred (some []))) (.loop (rec .ready none));rwa[World.size_alloc] at this
 have hD1:W1.heap[w.heap.size]?=some (.deferred (some [])):=by
  rw[<-hW1];have h1:=World.alloc_heap_new w (.deferred (some []));rw[<-h1];exact Go.heap_alloc_old _ _ (by simp)
 have hk1:Keeps (λ_ _=>False) w W1:=by rw[<-hW1];exact(Keeps.alloc _ w _).trans (Keeps.alloc _ _ _)
 have hs1:W1.heap.size=w.heap.size+2:=by rw[<-hW1];simp
 let l:=w.heap.size+1
 let dd:=w.heap.size
 let E:S->MO:=λs=>Est env a.tmps (objs s) l dd (rec .ready none)
 have hm1:Mono w (aU A (objs s0)) W1 (aU A [E s0]):=by
  refine lR (objs:=objs s0) (objs':=[E s0]) hk1 (λ_ _ h=>h.elim) λb o hb hx=>?_
  rcases hx with hx|⟨m,hm,hf⟩
  ·exact .inl hx
  ·simp at hm;subst hm
   rcases hf with hf|rfl|rfl
   ·exact .inr hf
   ·show aU A (objs s0) _ o;simp only[l] at hb;omega
   ·show aU A (objs s0) _ o;simp only[dd] at hb;omega
 have hinv1:Inv W1 A [E s0]:=by
  refine⟨by simp[Sep],λm hm b o hf hA=>?_,λm hm=>?_,hR.inv.amb.on hm1⟩
  ·simp at hm;subst hm
   have hlt:=u4 (hR.old b o hA) hR.keeps.size
   rcases hf with⟨m,hm,hf⟩|rfl|rfl
   ·exact hR.inv.apart m hm b o hf hA
   ·simp only[l] at hlt;omega
   ·simp only[dd] at hlt;omega
  ·simp at hm;subst hm
   exact bDw ⟨⟨hR.inv.sep,λb o ⟨m,hm,hf⟩=>by
    have:=lU (hR.inv.holds m hm) hf;simp only[l,dd]
    omega⟩,λk=>(hR.env k).mono hm1,λm hm=>cI (hR.inv.holds m hm) hk1 (λ_ _ _ h=>h) hm1,hL1,hD1⟩
 have hA1:∀b o,A b o->b<W1.heap.size:=λb o h=>by
  have:=hR.old b o h;have:=hR.keeps.size
  omega
 let J:S0->MO->Prop:=λx m=>∃s,π s=x/\m=E s
 have hround:∀x m args x',J x m->Y x args x'->aLx P l args m (J x'):=by
  rintro _ _ args x' ⟨s,rfl,rfl⟩ hY A' W vs hinv hA' hvs;obtain⟨hlen,hb⟩:=hbody s args x' hY;obtain⟨⟨es,ef⟩,e1,e2,e3,e4⟩:=bNo (hinv.holds _ (l7.2 rfl));have hyr:=run_yield (P:=P) (args:=vs.toArray) e3 (by rw[hrec];simp[hvs.length,hlen]);rw[hrec] at hyr;have hll:l<W.heap.size:=(j8.1 e3).1;have hdl:dd<W.heap.size:=(j8.1 e4).1;have hld:l≠dd:=by simp only[l,dd];omega
  let Ar:aR:=λb o=>A' b o\/b=l\/b=dd
  have hset:∀s b o,aU Ar (objs s) b o↔aU A' [E s] b o:=by
   intro s b o
   constructor
   ·rintro((h|h)|h)
    ·exact .inl h
    ·exact .inr ⟨E s,by simp,.inr h⟩
    ·exact .inr ⟨E s,by simp,.inl h⟩
   ·rintro(h|⟨m,hm,hf⟩)
    ·exact .inl (.inl h)
    ·simp at hm;subst hm
     rcases hf with hf|hf
     ·exact .inr hf
     ·exact .inl (.inr hf)
  have hmX:∀W s,Mono W (aU A' [E s]) W (aU Ar (objs s)):=λW s=>Mono.sub λb o h=>(hset s b o).1 h;have hmX':∀W s,Mono W (aU Ar (objs s)) W (aU A' [E s]):=λW s=>Mono.sub λb o h=>(hset s b o).2 h;have hup:=bKy (X:=aU Ar (objs s)) (n:=n) ps args vs env a.tmps hR.size hps (hvs.mono (hmX W s)) λk=>(e1 k).mono (hmX W s);have hRr:R Ar (fJ (objs s)) ⟨W,[],some l⟩ n ⟨aTf env ps args,objs s⟩ {tmps:=(ps.zip vs).foldl (λt (p,v)=>t.setIfInBounds p v) a.tmps,defers:=[]} W:=by
   refine⟨hup.2,Marks.nil _ ⟨W,[],some l⟩ _,hup.1,⟨es,λm hm b o hf hA=>?_,λm hm=>cI (e2 m hm) (Keeps.refl (λ_ _=>False) W) (λ_ _ _ h=>h) (hmX W s),hinv.amb.on (hmX W s)⟩,Keeps.refl _ _,λm hm b o hf=>.inl ⟨m,hm,hf⟩,λb o hA=>?_⟩
   ·rcases hA with hA|hA|hA
    ·exact hinv.apart (E s) (by simp) b o (.inl ⟨m,hm,hf⟩) hA
    ·exact(ef b o ⟨m,hm,hf⟩).1 hA
    ·exact(ef b o ⟨m,hm,hf⟩).2 hA
   ·rcases hA with hA|rfl|rfl
    ·exact hA' b o hA
    ·exact hll
    ·exact hdl
  have htm:(ps.toArray.zip vs.toArray).foldl (λ(t:Array Value) (p:Nat×Value)=>t.setIfInBounds p.1 p.2) a.tmps=(ps.zip vs).foldl (λt (p,v)=>t.setIfInBounds p v) a.tmps:=by simp
  have hyr':(Instr.yield l vs.toArray).run P W=.ok (.round l fn ((ps.zip vs).foldl (λt (p,v)=>t.setIfInBounds p v) a.tmps) assign body) W:=by
   rw[<-htm];exact hyr
  refine⟨fn,_,assign,body,hyr',roundIn_of_wpIn trivial ?_⟩;refine wpIn_mono (F:=fen (some l)) (hb Ar (fJ (objs s)) ⟨W,[],some l⟩ _ W hRr (.inr hna)) ?_;rintro e a1 w1 ⟨s1,⟨rfl,hb2⟩,hR1⟩;have hl1:w1.heap[l]?=some (.loop (rec .ready none)):=(hR1.keeps.block l hll λo h=>(ef l o h).1 rfl).trans e3;have hd1:w1.heap[dd]?=some (.deferred (some [])):=(hR1.keeps.block dd hdl λo h=>(ef dd o h).2 rfl).trans e4;refine⟨_,run_beginRound hl1 (by rw[hrec]),?_⟩;obtain⟨w2,hw2⟩:∃w2,w1.putObj l (.loop {rec .ready none with state:=.busy})=w2:=⟨_,rfl⟩;rw[hw2];have hl1lt:=(j8.1 hl1).1;have hk12:Keeps (λb _=>b=l) w1 w2:=by rw[<-hw2];exact aJc λ_=>rfl
  have hm12:∀X,Mono w1 X w2 X:=λX=>by rw[<-hw2];exact aLm hl1 (by simp) (by simp)
  have hl2:w2.heap[l]?=some (.loop {rec .ready none with state:=.busy}):=by rw[<-hw2];exact World.putObj_heap_same hl1lt
  have hd2:w2.heap[dd]?=some (.deferred (some [])):=by rw[<-hw2];exact(World.putObj_heap_other (aF9 hld)).trans hd1
  have hR2:R Ar (fJ s1.objs) ⟨w2,a1.defers,some l⟩ n s1 a1 w2:=by
   refine⟨hR1.size,Marks.nil _ ⟨w2,a1.defers,some l⟩ _,λk=>(hR1.env k).mono (hm12 _),⟨hR1.inv.sep,hR1.inv.apart,λm hm=>cI (hR1.inv.holds m hm) hk12 (λb o hf e=>hR1.inv.apart m hm b o hf (.inr (.inl e))) (hm12 _),hR1.inv.amb.on (hm12 _)⟩,Keeps.refl _ _,λm hm b o hf=>.inl ⟨m,hm,hf⟩,λb o hA=>?_⟩;exact u4 (u4 (hR1.old b o hA) hR1.keeps.size) hk12.size
  refine wpIn_mono (F:=fen (some l)) (hb2 Ar (fJ s1.objs) ⟨w2,a1.defers,some l⟩ a1 w2 hR2 (.inr hnb)) ?_;rintro e a3 w3 ⟨s2,⟨rfl,s',hπ,hobj⟩,hR3⟩;have hap1:∀o,¬fJ s1.objs l o/\¬fJ s1.objs dd o:=λo=>⟨λ⟨m,hm,hf⟩=>hR1.inv.apart m hm _ _ hf (.inr (.inl rfl)),λ⟨m,hm,hf⟩=>hR1.inv.apart m hm _ _ hf (.inr (.inr rfl))⟩;have hl3:w3.heap[l]?=some (.loop {rec .ready none with state:=.busy}):=(hR3.keeps.block l (j8.1 hl2).1 λo h=>(hap1 o).1 h).trans hl2;have hd3:w3.heap[dd]?=some (.deferred (some [])):=(hR3.keeps.block dd (j8.1 hd2).1 λo h=>(hap1 o).2 h).trans hd2;have hl3lt:=(j8.1 hl3).1;refine⟨_,_,run_endRound none hl3,rfl,E s',?_⟩;have hrec4:({({rec .ready none with state:=.busy}:Loop) with state:=if(none:Option Code).isNone then .ready else .done,pending:=none}:Loop)=rec .ready none:=by rw[hrec];rfl
  rw[hrec4];obtain⟨w4,hw4⟩:∃w4,w3.putObj l (.loop (rec .ready none))=w4:=⟨_,rfl⟩;rw[hw4];have hk34:Keeps (λb _=>b=l) w3 w4:=by rw[<-hw4];exact aJc λ_=>rfl
  have hm34:∀X,Mono w3 X w4 X:=λX=>by rw[<-hw4];exact aLm hl3 (by simp) (by simp)
  have hl4:w4.heap[l]?=some (.loop (rec .ready none)):=by rw[<-hw4];exact World.putObj_heap_same hl3lt
  have hd4:w4.heap[dd]?=some (.deferred (some [])):=by rw[<-hw4];exact(World.putObj_heap_other (aF9 hld)).trans hd3
  have hsz2:W.heap.size<=w2.heap.size:=aH4 hR1.keeps.size hk12.size;have hkF:Keeps (fJ [E s]) W w4:=by
   have k1:Keeps (fJ [E s]) W w1:=hR1.keeps.mono λb o h=>⟨E s,by simp,.inl h⟩;have k2:Keeps (fJ [E s]) W w2:=k1.trans (hk12.mono λb o h=>⟨E s,by simp,.inr (.inl h)⟩);have k3:Keeps (fJ [E s]) W w3:=k2.weaken hR3.keeps λb o ⟨m,hm,hf⟩=>by
    rcases hR1.own m hm b o hf with h|h
    ·exact .inl ⟨E s,by simp,.inl h⟩
    ·exact .inr h
   exact k3.trans (hk34.mono λb o h=>⟨E s,by simp,.inr (.inl h)⟩)
  have hF':∀b o,Fst (objs s') l dd b o->Fst (objs s) l dd b o\/W.heap.size<=b:=by
   rintro b o (⟨m,hm,hf⟩|h)
   ·rw[<-hobj] at hm
    rcases hR3.own m hm b o hf with⟨m1,hm1,hf1⟩|h
    ·rcases hR1.own m1 hm1 b o hf1 with h|h
     ·exact .inl (.inl h)
     ·exact .inr h
    ·exact .inr (aH4 hsz2 h)
   ·exact .inl (.inr h)
  have hmW:Mono W (aU A' [E s]) w4 (aU A' [E s']):=lR (objs:=[E s]) (objs':=[E s']) hkF (λb o h=>.inr h) λb o hb hx=>by
   rcases hx with hx|⟨m,hm,hf⟩
   ·exact .inl hx
   ·simp at hm;subst hm
    rcases hF' b o hf with h|h
    ·exact .inr ⟨E s,by simp,h⟩
    ·omega
  have hmR:Mono w3 (aU Ar (objs s')) w4 (aU A' [E s']):=(hm34 _).trans (hmX' w4 s');refine⟨hkF,⟨by simp[Sep],λm hm b o hf hA=>?_,λm hm=>?_,hinv.amb.on hmW⟩,λb o hf=>?_,s',hπ,rfl⟩
  ·simp at hm;subst hm
   rcases hf with⟨m,hm,hf⟩|hf
   ·rw[<-hobj] at hm;exact hR3.inv.apart m hm b o hf (.inl hA)
   ·exact hinv.apart (E s) (by simp) b o (.inr hf) hA
  ·simp at hm;subst hm
   refine bDw ⟨⟨by rw[<-hobj];exact hR3.inv.sep,λb o ⟨m,hm,hf⟩=>?_⟩,λk=>(e1 k).mono hmW,λm hm=>?_,hl4,hd4⟩
   ·rw[<-hobj] at hm;exact⟨λe=>hR3.inv.apart m hm b o hf (.inr (.inl e)),λe=>hR3.inv.apart m hm b o hf (.inr (.inr e))⟩
   ·rw[<-hobj] at hm;have h3:=hR3.inv.holds m hm;rw[hobj] at h3;exact cI h3 hk34 (λb o hf e=>hR3.inv.apart m hm b o hf (.inr (.inl e))) hmR
  ·rcases hF' b o hf with h|h
   ·exact .inl ⟨E s,by simp,h⟩
   ·exact .inr h
 obtain⟨vs,D,hargs,hres,hinvo⟩:∃(vs:List Value) (D:Deferred),VRs W1 (aU A [E s0]) (rfa cl bound (.d (.lit (yv l)))) vs/\(Deferred.ofValue (a.eval (.tmp t)) #[yv l]).run P W1=.ok D W1/\(invoke D.target D.args).run P W1=.ok (.enter f vs.toArray) W1:=by
  rw[hev];cases cl with
  |true=>exact⟨yv l::us,{target:=.fn (.func f) us.toArray,args:= #[yv l]},⟨.d (.lit _ rfl),hbd.mono hm1⟩,by simp[Deferred.ofValue,go_sem],by simp[invoke,go_sem,hcf]⟩
  |false=>exact⟨us++[yv l],{target:=.fn (.func f) #[],args:=us.toArray++ #[yv l]},(hbd.mono hm1).append ⟨.d (.lit _ rfl),trivial⟩,by simp[Deferred.ofValue,go_sem],by simp[invoke,go_sem,hcf]⟩
 have hcall:=hI l J hround (E s0) ⟨s0,h0,rfl⟩ A W1 vs hinv1 hA1 hargs;refine⟨l,[{target:=.collected dd,args:= #[]}],W1,D,W1,f,vs.toArray,W1,?_,?_,λ_ _=>trivial,?_,λh=>(by cases h),?_⟩
 ·rw[<-hW1,hrec];exact run_enterLoop_outer _ _ _ _ _
 ·have e2:resolve a.eval (rangeCall (.tmp t) l) 0=Deferred.ofValue (a.eval (.tmp t)) #[yv l]:=by
   unfold resolve;have e:(#[Operand.const (.func (.yield l) #[] #[])]:Array Operand).map a.eval= #[yv l]:=by simp[yv,Act.eval]
   simp only[rangeCall,e]
  rw[e2];exact hres
 ·exact hinvo
 ·refine CallsIn.mono ((callsIn_wide (n:=0)).2 hcall) ?_;rintro e w3 ⟨v,r,objs',rfl,hk,hinv,hv,hnew,m',⟨s',hπ,rfl⟩,rfl⟩;obtain⟨⟨es,ef⟩,e1,e2,e3,e4⟩:=bNo (hinv.holds _ (l7.2 rfl));have hld:l≠dd:=by simp only[l,dd];omega
  have hend:=run_endLoop (P:=P) e3 (by rw[hrec];simp);have hpe:(rec .ready none).pending=none:=by rw[hrec]
  rw[hpe] at hend;obtain⟨ob,hob⟩:∃ob:Loop,(Instr.endLoop l).run P w3=.ok none (w3.putObj l (.loop ob)):=⟨_,hend⟩;obtain⟨w4,hw4⟩:∃w4,w3.putObj l (.loop ob)=w4:=⟨_,rfl⟩;rw[hw4] at hob;refine⟨none,w4,hob,?_⟩;have hl3lt:=(j8.1 e3).1;have hk34:Keeps (λb _=>b=l) w3 w4:=by rw[<-hw4];exact aJc λ_=>rfl
  have hm34:∀X,Mono w3 X w4 X:=λX=>by rw[<-hw4];exact aLm e3 (by simp) (by simp)
  have hd4:w4.heap[dd]?=some (.deferred (some [])):=by rw[<-hw4];exact(World.putObj_heap_other (aF9 hld)).trans e4
  have hmX:Mono w3 (aU A [E s']) w4 (aU A (objs s')):=(hm34 _).trans (Mono.sub λb o h=>h.imp id λh=>⟨E s',by simp,.inl h⟩);have hs0:=hR.keeps.size;have hF0:∀b o,Fst (objs s0) l dd b o->M b o\/w0.w.heap.size<=b:=by
   rintro b o (⟨m,hm,hf⟩|rfl|rfl)
   ·exact hR.own m hm b o hf
   ·exact .inr (by simp only[l];omega)
   ·exact .inr hs0
  have hF1:∀b o,fJ (objs s') b o->Fst (objs s0) l dd b o\/W1.heap.size<=b:=λb o h=>by
   rcases hnew (E s') (by simp) b o (.inl h) with⟨m,hm,hf⟩|h
   ·simp at hm;subst hm;exact .inl hf
   ·exact .inr h
  refine⟨⟨env,objs s'⟩,hN s' hπ,hR.size,?_,λk=>(e1 k).mono hmX,⟨es,λm hm b o hf hA=>hinv.apart (E s') (by simp) b o (.inl ⟨m,hm,hf⟩) hA,λm hm=>cI (e2 m hm) hk34 (λb o hf e=>(ef b o ⟨m,hm,hf⟩).1 e) hmX,hinv.amb.on hmX⟩,?_,λm hm b o hf=>?_,hR.old⟩
  ·obtain⟨Ds,g1,g2,g3⟩:=hR.defers;refine⟨dd::Ds,by simp[g1],w6.2 ⟨λhm=>?_,g2⟩,λD hD=>?_⟩
   ·have:=(j8.1 (g3 dd hm).1).1;simp only[dd] at this;omega
   ·rcases l4.1 hD with rfl|hD
    ·refine⟨hd4,hs0,λo ho=>?_⟩
     rcases ho with ho|ho
     ·have:=hR.old dd o ho;simp only[dd] at this;omega
     ·exact(ef dd o ho).2 rfl
    ·obtain⟨q1,q2,q3⟩:=g3 D hD;have hlt:=(j8.1 q1).1;have hDl:D≠l/\D≠dd:=by simp only[l,dd];omega
     have hk1w:W1.heap[D]?=some (.deferred (some [])):=(hk1.block D hlt λ_ h=>h).trans q1;have hk3w:w3.heap[D]?=some (.deferred (some [])):=(hk.block D (j8.1 hk1w).1 λo ⟨m,hm,hf⟩=>by
      simp at hm;subst hm
      rcases hf with hf|hf|hf
      ·exact q3 o (.inr hf)
      ·exact hDl.1 hf
      ·exact hDl.2 hf).trans hk1w
     have hk4w:w4.heap[D]?=some (.deferred (some [])):=(hk34.block D (j8.1 hk3w).1 λ_ h=>hDl.1 h).trans hk3w;refine⟨hk4w,q2,λo ho=>?_⟩
     rcases ho with ho|ho
     ·exact q3 o (.inl ho)
     ·rcases hF1 D o ho with(h|h|h)|h
      ·exact q3 o (.inr h)
      ·exact hDl.1 h
      ·exact hDl.2 h
      ·omega
  ·have k1:Keeps M w0.w W1:=hR.keeps.weaken hk1 λ_ _ h=>h.elim;have k3:Keeps M w0.w w3:=k1.weaken hk λb o ⟨m,hm,hf⟩=>by
    simp at hm;subst hm;exact hF0 b o hf
   exact k3.weaken hk34 λb o h=>by subst h;exact .inr (by simp only[l];omega)
  ·rcases hF1 b o ⟨m,hm,hf⟩ with h|h
   ·exact hF0 b o h
   ·exact .inr (by omega)
end
end Go.Am
namespace Go.Am
section
variable{P:Program}{n:Nat}{st:St}{Q:Exit->St->Prop}{N:St->Prop}
theorem bNx:∀e s,mM N (λ_ _=>False) e s->(e=.normal/\N s):=λe s h=>by
 cases e<;>first|exact⟨rfl,h⟩|exact h.elim
theorem bIz{id:Nat}:∀e s,mM N (λ_ _=>False) e s->zM id N Q e s:=λe s h=>by
 cases e<;>first|exact h|exact h.elim
theorem aRu{e:Nat->AV}:Le e emp:=λ_=>.inl rfl
theorem aXj[Mode]{S S0:Type}{cl:Bool}{t:Nat}{f:FuncId}{bound:List AV}{ps:List Nat}{assign body:Code}{env:Nat->AV}(π:S->S0)(objs:S->List MO)(Y:S0->List AV->S0->Prop)(s0:S)(x0 x1:S0)
  (he:Ent st ⟨env,objs s0⟩)(hg:env t=rfv cl f bound)(hcf:∀args w,(callFunc f args).run P w=.ok (.enter f args) w)(h0:π s0=x0)
  (hps:(ps.all λp=>Nat.blt p n)=true)(hna:aEk assign=true)(hnb:aEk body=true)
  (hI:∀(l:Nat) (J:S0->MO->Prop),(∀x m args x',J x m->Y x args x'->aLx P l args m (J x'))->∀m0,J x0 m0->aX P f (rfa cl bound (.d (.lit (yv l)))) [m0] (λ_ o=>∃m',J x1 m'/\o=[m']))
  (hbody:∀s args x',Y (π s) args x'->args.length=ps.length/\Tr P n assign ⟨aTf env ps args,objs s⟩ (mM (λs1=>Tr P n body s1 (mM (λs2=>∃s',π s'=x'/\Ent s2 ⟨emp,objs s'⟩) (λ_ _=>False))) (λ_ _=>False)))
  (hN:∀s,π s=x1->N ⟨env,objs s⟩):Tr P n (.rangeFunc (.tmp t) ps.toArray assign body) st (mM N (λ_ _=>False)):=by
 refine bKw π objs Y s0 x0 x1 he hg hcf h0 (λp hp=>aC (k6.1 hps p hp)) hna hnb hI (λs args x' hy=>?_) hN;obtain⟨h1,h2⟩:=hbody s args x' hy;refine⟨h1,nJ h2 λe s1 h=>?_⟩;obtain⟨he,h3⟩:=bNx e s1 h;refine⟨he,λA M w0 a w hR hn=>wpIn_mono (h3 A M w0 a w hR hn) ?_⟩;rintro e a' w' ⟨s2,hq,hR2⟩;obtain⟨he2,s',hs',hent⟩:=bNx e s2 hq;exact⟨⟨emp,objs s'⟩,⟨he2,s',hs',rfl⟩,hent A M w0 n a' w' hR2⟩
end
end Go.Am
namespace Go.Am
theorem wB[Mode]{P:Program}{f:FuncId}{fn:Func}{c:Code}{args:List AV}{objs:List MO}{Q:AV->List MO->Prop}(hf:P.funcs[f]?=some fn)(hb:fn.body=some c){rs:List ResultVar}(hr:fn.results=rs.toArray){n:Nat}(hn:fn.ntmps=n)(ha:args.length<=n)
  (h:Tr P n c ⟨entry args,objs⟩ (mM (λst=>∃r0 objs' gone r,ResW P st rs r0/\st.objs.Perm (objs'++gone)/\BV gone r0 r/\Q r objs') (λe st=>e=.ret/\∃r0 objs' gone r,ResW P st rs r0/\st.objs.Perm (objs'++gone)/\BV gone r0 r/\Q r objs'))):aX P f args objs Q:=by
 subst hn;have key:∀e st,mM (λst=>∃r0 objs' gone r,ResW P st rs r0/\st.objs.Perm (objs'++gone)/\BV gone r0 r/\Q r objs') (λe st=>e=.ret/\∃r0 objs' gone r,ResW P st rs r0/\st.objs.Perm (objs'++gone)/\BV gone r0 r/\Q r objs') e st->(e=.ret\/e=.normal)/\∃r0 objs' gone r,ResW P st rs r0/\st.objs.Perm (objs'++gone)/\BV gone r0 r/\Q r objs':=by
  intro e st h;cases e<;>first|exact⟨.inr rfl,h⟩|exact⟨.inl h.1,h.2⟩
 intro A w vs hinv hA hvs;refine aLi hf hb ha h hinv hA hvs (λe st hq=>(key e st hq).1) ?_;intro e st a' w' hq hR';obtain⟨_,r0,objs',gone,r,hres,hp,hbv,hq⟩:=key e st hq;obtain⟨v,hrun,hv⟩:=aQk hr hres hR';have hR1:R A (fJ objs) ⟨w,[],none⟩ 1 ⟨upd emp 0 r0,st.objs⟩ {tmps:= #[v],defers:=[]} w':=by
  refine⟨rfl,Marks.nil _ ⟨w,[],none⟩ _,λk=>?_,hR'.inv,hR'.keeps,hR'.own,hR'.old⟩;show VR _ _ (upd emp 0 r0 k) _
  by_cases hk:0=k
  ·subst hk;rw[fD];exact hv
  ·rw[lC _ _ hk];exact .any _
 have hR2:=oL (env':=upd emp 0 r) hp (λk=>by
  by_cases hk:0=k
  ·subst hk;rw[fD,fD];exact hbv
  ·rw[lC _ _ hk,lC _ _ hk];exact .any _) A (fJ objs) ⟨w,[],none⟩ 1 _ w' hR1
 have hv2:VR w' (aU A objs') (upd emp 0 r 0) v:=hR2.env 0;rw[fD] at hv2;exact⟨v,hrun,v,r,objs',rfl,hR2.keeps,hR2.inv,hv2,hR2.own,hq⟩
end Go.Am
namespace Go.Am
abbrev bTc{S A B:Type}(e1:A->AV)(e2:B->AV)(f:S->A->B->Option S):S->List AV->S->Prop:=λx args x'=>∃a b,args=[e1 a,e2 b]/\f x a b=some x'
end Go.Am
end
section
section
section
namespace Go.Am
open Go.Sort
theorem bEa:∀zs:List Int,(zs.map aP).flatten=zs.map λx=>.lit (.int .i64 x)
 |[]=>rfl
 |z::zs=>by simp only[j3,aB9,bEa zs];rfl
theorem bHq{w:World}{X:aR}:∀(zs:List Int),DRs w X ((zs.map aP).flatten) (zs.map (Value.int .i64))
 |[]=>trivial
 |z::zs=>⟨.lit _ rfl,bHq zs⟩
theorem bLx{w:World}{X:aR}{zs:List Int}{xs:List Value}(h:DRs w X ((zs.map aP).flatten) xs):xs=zs.map (Value.int .i64):=by
 have hl:∀zs:List Int,dY ((zs.map aP).flatten)=true:=by
  intro zs
  induction zs with
  |nil=>rfl
  |cons z zs ih=>rw[j3,aB9];exact ih
 rw[aOj (hl zs) h,bEa,aA6]
 rfl
theorem bMa[Mode]{w w':World}{v:Value}(h:w.grownBy w' v.ownBlock)(hd:w.drawn<=w'.drawn):Keeps (λb _=>v.ownBlock=some b) w w':=by
 obtain⟨h1,h2,h3,h4,h5⟩:=h;have hb:∀b,b<w.heap.size->v.ownBlock≠some b->w'.heap[b]?=w.heap[b]?:=λb hb hn=>h5 b hb (aF9 hn);refine⟨h1,h2,h3,h4,λb hlt hz=>hb b hlt (hz 0),λb o hlt hz=>?_,λb o hlt hz=>?_,λ_=>hd⟩
 ·simp only[World.cell?,hb b hlt hz]
 ·simp only[World.frozen?,hb b hlt hz]
def aHw(zs:List Int):List Int:=zs.mergeSort λx y=>decide (x<=y)
theorem bSt[Mode]{P:Program}{N:FuncId}
  (h1:∀(blk off cap:Nat) (zs:List Int) (w:World),Holds (Value.int .i64) w blk off zs.toArray->blk<w.heap.size->zs.length<4611686018427387904->
   Calls P N #[.slice (some ⟨blk,off,none⟩) zs.length cap] w λe w'=>e=.returned (.tuple #[])/\∃n os,w'=grow (putRow (Value.int .i64) (Sort.ahead w n) blk off (zs.mergeSort λx y=>decide (x<=y)).toArray) os)
  (h0:∀(p:Option Addr) (cap:Nat) (w:World),Calls P N #[.slice p 0 cap] w λe w'=>e=.returned (.tuple #[])/\w'=w)
  {v:Value}{e:TypeId}{zs:List Int}(hl:zs.length<4611686018427387904):
  aX P N [.d (.lit v)] [.arr v e 1 (zs.map aP)] (λr o=>r=.tup []/\o=[.arr v e 1 ((aHw zs).map aP)]):=by
 intro A w vs hI hA hv;have hvs:vs=[v]:=by
  match vs,hv with
  | [u],hv=>
   cases hv.1 with
   |d h=>cases h;rfl
 subst hvs;obtain⟨xs,hd,hown,hr⟩:=hI.holds _ (l7.2 rfl);have hx:=bLx hd;subst hx;rw[m8] at hown;have hvr:∀w' X,VR w' X (.tup []) (.tuple #[]):=λw' X=>.tup (us:=[]) rfl λi hi=>by simp at hi
 rcases hown.2 with⟨hn,hz⟩|⟨g,cap,cur,rfl,hb,hg,h2,h3,h4,h5⟩
 ·subst hn;have hz0:zs=[]:=aD5.1 hz;subst hz0;refine(h0 none 0 w).mono ?_;rintro e' w' ⟨rfl,rfl⟩;exact⟨_,.tup [],_,rfl,Keeps.refl _ _,hI,hvr _ _,λm hm b o hf=>.inl ⟨m,hm,hf⟩,rfl,by simp[aHw]⟩
 ·rw [Nat.mul_one] at h5;have hsl:(aHw zs).length=zs.length:=by simp[aHw]
  refine(h1 g 0 cap zs w (holds_of_blockI hg (by simpa using h5)) (j8.1 hg).1 hl).mono ?_;rintro e' w' ⟨rfl,n,os,rfl⟩;have hgb:=grownBy_sortedI (w:=w) (g:=g) (n:=n) (os:=os) (zs.mergeSort λx y=>decide (x<=y)).toArray;have hk:=bMa (v:=.slice (some ⟨g,0,none⟩) zs.length cap) hgb (Nat.le_add_right _ _);refine⟨_,.tup [],[.arr (.slice (some ⟨g,0,none⟩) zs.length cap) e 1 ((aHw zs).map aP)],rfl,hk.mono λb o h=>⟨_,l7.2 rfl,h⟩,⟨?_,λm hm b o hf=>?_,λm hm=>?_,hI.amb.on (lR hk (λb o h=>.inr ⟨_,l7.2 rfl,h⟩) λb o _ h=>h.imp id λ⟨m,hm,hf⟩=>by cases l7.1 hm;exact⟨_,l7.2 rfl,hf⟩)⟩,hvr _ _,λm hm b o hf=>?_,rfl,rfl⟩
  ·exact List.pairwise_singleton _ _
  ·cases l7.1 hm;exact hI.apart _ (l7.2 rfl) b o hf
  ·cases l7.1 hm;refine⟨_,bHq (aHw zs),?_,λr hr'=>?_⟩
   ·have:=ownsRow_sortedI (base:=0) (n:=n) (os:=os) (ss:=zs) (ts:=aHw zs) hsl hb hg h2 h3 h4;rw[m8,hsl];exact this
   ·obtain⟨x,_,rfl⟩:=l5.1 hr'
    rfl
  ·cases l7.1 hm;exact .inl ⟨_,l7.2 rfl,hf⟩
end Go.Am
end
section
section
namespace Go.Am
def wT{α:Type}(enc:α->List D)(o:Option α)(v:Value):MO:=.ext (λ_ _=>False) (λw X=>VR w X (zY enc o) v)
section
variable{P:Program}{n d:Nat}{st:St}{Q:Exit->St->Prop}
theorem cCv[Mode]{α:Type}{enc:α->List D}{o:Option α}{ops:Array Oper}{l:List Oper}{env:Nat->AV}{objs:List MO}(k:Nat)(hk:env k=zY enc o)
  (h:∀v:Value,TrL P n ops l ⟨upd env k (.d (.lit v)),objs++[wT enc o v]⟩ Q):TrL P n ops l ⟨env,objs⟩ Q:=λA M w0 a w hR=>by
 have hv:=hR.env k;rw[show(⟨env,objs⟩:St).env k=zY enc o from hk] at hv;have h1:=hR.add (m:=wT enc o (a.tmps.getD k undef)) (Keeps.refl _ _) (λb o hf=>hf.elim) (λhm=>⟨λ_ _ h=>h.elim,λw' X' hm' _=>(hv.mono hm).mono hm'⟩);refine h (a.tmps.getD k undef) A M w0 a w ⟨h1.size,h1.defers,λj=>?_,h1.inv,h1.keeps,h1.own,h1.old⟩
 by_cases hj:k=j
 ·subst hj;rw[show(⟨upd env k (.d (.lit (a.tmps.getD k undef))),objs++[wT enc o (a.tmps.getD k undef)]⟩:St).env k=.d (.lit (a.tmps.getD k undef)) from fD _ _ _];refine .d (.lit _ ?_)
  generalize a.tmps.getD k undef=v at hv
  cases o with
  |none=>cases hv with|d h=>exact h.oneCell
  |some x=>cases hv with|cp=>rfl
 ·rw[show(⟨upd env k (.d (.lit (a.tmps.getD k undef))),objs++[wT enc o (a.tmps.getD k undef)]⟩:St).env j=env j from lC _ _ hj];exact h1.env j
theorem bFc[Mode]{α:Type}{enc:α->List D}{oo:Option α}{x:Operand}{t:TypeId}{b o j i i2:Nat}{ds:List D}{v:Value}{ty:TypeId}{pos:String}{af:Array Edge}{gd:Option (Nat×Bool)}(hd:d<n)
  (hx:st.eval x=.bp b o j)(ho:st.objs[i]?=some (.box b o ds))(hj:ds[j]?=some (.lit v))(h2:st.objs[i2]?=some (wT enc oo v))(ht:fN P t):aQ P n ⟨some d,.load t x,ty,pos,af,gd⟩ st (st.set d (zY enc oo)):=
 cG rfl hd λA M w0 a w hR=>by
  have hk:cD x=true:=by cases x with|const u=>cases hx|_=>rfl
  have h:=hR.eval' hk;rw[hx] at h
  generalize hu:a.eval x=u at h
  obtain⟨vs,hds,hc,_⟩:=hR.inv.holds _ (i8 ho);obtain⟨_,hf⟩:=hR.inv.holds _ (i8 h2);obtain⟨u',hv,hdv⟩:=hds.get hj;have hu':u'=v:=by cases hdv;rfl
  subst hu';cases h with
  |bp=>exact⟨u',by simp[execOp,hu,aDa ht (hc j u' hv)],hf _ _ (Mono.refl _ _) (Keeps.refl _ _)⟩
theorem bXi[Mode]{α:Type}{enc:α->List D}{y:α}{x:Operand}{t:TypeId}{b o j i i2:Nat}{ds:List D}{v:Value}{ty:TypeId}{pos:String}{af:Array Edge}{gd:Option (Nat×Bool)}(hd:d<n)
  (hx:st.eval x=.bp b o j)(ho:st.objs[i]?=some (.box b o ds))(hj:ds[j]?=some (.lit v))(h2:st.objs[i2]?=some (wT enc (some y) v))(ht:fN P t):aQ P n ⟨some d,.load t x,ty,pos,af,gd⟩ st (st.set d (.cp (enc y))):=
 bFc hd hx ho hj h2 ht
theorem bVb[Mode]{α:Type}{enc:α->List D}{o:Option α}{y:α}{v:Value}{env:Nat->AV}{objs:List MO}{i:Nat}(ho:objs[i]?=some (wT enc o v))(h:o=some y):Ent ⟨env,objs⟩ ⟨env,objs.set i (wT enc (some y) v)⟩:=by
 subst h;have hi:i<objs.length:=(g7.1 ho).1;have:objs.set i (wT enc (some y) v)=objs:=by
  rw[<-(g7.1 ho).2];exact List.set_getElem_self hi
 rw[this];exact Ent.refl _
theorem bZq[Mode]{α:Type}{enc:α->List D}{o:Option α}{y:α}{v:Value}{env:Nat->AV}{objs:List MO}{i:Nat}(ho:objs[i]?=some (wT enc (some y) v))(h:o=some y):Ent ⟨env,objs⟩ ⟨env,objs.set i (wT enc o v)⟩:=by
 subst h;exact bVb ho rfl
end
end Go.Am
end
section
namespace Go.Am
theorem bMe{a b:List D}(h1:dY a=true)(h2:dY b=true):dY (a++b)=true:=by
 induction a with
 |nil=>exact h2
 | cons x a ih=>
  cases x with
  |lit v=>exact ih h1
  |_=>simp[dY] at h1
theorem bEk{α:Type}{enc:α->List D}(h:∀x,dY (enc x)=true):∀xs:List α,dY (xs.map enc).flatten=true
 |[]=>rfl
 |x::xs=>by rw[j3,aB9];exact bMe (h x) (bEk h xs)
theorem pmn[Mode]:∀m∈([]:List MO),aEo m:=λ_ h=>by cases h
theorem pmc[Mode]{a:MO}{l:List MO}(h:aEo a)(hl:∀m∈l,aEo m):∀m∈a::l,aEo m:=λm hm=>by
 rcases l4.1 hm with rfl|hm
 ·exact h
 ·exact hl m hm
end Go.Am
end
section
namespace Go.Am
section
variable{P:Program}{n d:Nat}{st:St}{o:Oper}
end
end Go.Am
end
end
end
section
namespace Go.Am
def aFd{α β:Type}(kv:α->Value)(av:β->AV)(l:List (α×β))(r:Nat)(bs:List Nat)(ck:Nat):MO:=
 .ext (λ_ _=>False) λw X=>∃ms,w.heap[r]?=some (.map ms ck)/\(∀o,¬X r o)/\MRs w X (l.map λp=>(kv p.1,av p.2)) ms.toList/\ms.toList.map (·.born)=bs/\bs.Pairwise (·<·)/\∀b∈bs,b<ck
theorem bMg[Mode]{α β:Type}{kv:α->Value}{av:β->AV}{l:List (α×β)}{r:Nat}{bs:List Nat}{ck:Nat}{w:World}{X:aR}
  (h:∃ms,w.heap[r]?=some (.map ms ck)/\(∀o,¬X r o)/\MRs w X (l.map λp=>(kv p.1,av p.2)) ms.toList/\ms.toList.map (·.born)=bs/\bs.Pairwise (·<·)/\∀b∈bs,b<ck):(aFd kv av l r bs ck).holds w X:=by
 refine⟨λ_ _ h=>h.elim,λw' X' hm _=>?_⟩;obtain⟨ms,h1,h2,h3,h4⟩:=h;obtain⟨k1,k2⟩:=hm.map r ms ck h1 h2;exact⟨ms,k1,k2,h3.mono hm,h4⟩
theorem bIv[Mode]{α β:Type}{kv:α->Value}{av:β->AV}{l:List (α×β)}{r:Nat}{bs:List Nat}{ck:Nat}{w:World}{X:aR}(h:(aFd kv av l r bs ck).holds w X):
  ∃ms,w.heap[r]?=some (.map ms ck)/\MRs w X (l.map λp=>(kv p.1,av p.2)) ms.toList/\ms.toList.map (·.born)=bs/\bs.Pairwise (·<·)/\∀b∈bs,b<ck:=by
 obtain⟨ms,h1,_,h3⟩:=h.2 w X (Mono.refl _ _) (Keeps.refl _ _);exact⟨ms,h1,h3⟩
theorem MRs.of{w:World}{X:aR}:∀{es:List (Value×AV)} {ms:List MapEntry},ms.map (·.key)=es.map (·.1)->(∀(i:Nat) (m:MapEntry) (e:Value×AV),ms[i]?=some m->es[i]?=some e->VR w X e.2 m.val)->MRs w X es ms
 |[],[],_,_=>trivial
 | (k,x)::es,m::ms,hk,h=>by
  simp only[j3,aC7] at hk;exact⟨hk.1,h 0 m (k,x) rfl rfl,MRs.of hk.2 λi m' e h1 h2=>h (i+1) m' e (by simpa using h1) (by simpa using h2)⟩
 |[],_::_,hk,_=>by simp at hk
 |_::_,[],hk,_=>by simp at hk
theorem cGt[Mode]{w:World}{X:aR}{α β:Type}{kv:α->Value}{enc:β->List D}{agg:Bool}{l:List (α×β)}{av:β->AV}(ha:∀v,av v=eA agg (enc v)){u:Value}(h:DR w X (.mp agg (l.map λp=>(kv p.1,enc p.2))) u):
  ∃r bs ck,u=.map (some r)/\bs.length=l.length/\(aFd kv av l r bs ck).holds w X/\∃ms,w.heap[r]?=some (.map ms ck):=by
 have hp:=aWo h;cases h with
 | mp _ _ r clock ms f hb hx hk hpw hc hv h1 hr=>
  obtain⟨r',c',ms',e,hb',hk',hval⟩:=hp;cases e;rw[hb] at hb';cases hb';refine⟨r,ms.toList.map (·.born),clock,rfl,?_,bMg ⟨ms,hb,hx,?_,rfl,hpw,hc⟩,ms,hb⟩
  ·have:=aA5 List.length hk
   simpa using this
  ·refine MRs.of (by rw[hk];simp) λi m e hi he=>?_;simp only[p8,Option.map_eq_some_iff] at he;obtain⟨p,hp,rfl⟩:=he;have:=hval i m (kv p.1,enc p.2) hi (by simp[hp]);simp only[ha];exact this
section
variable{P:Program}{n d:Nat}{st:St}
theorem bSl[Mode]{t kt et:TypeId}{α β:Type}{kv:α->Value}{enc:β->List D}{agg:Bool}{l:List (α×β)}{av:β->AV}(ha:∀v,av v=eA agg (enc v)){x:Operand}{ty:TypeId}{pos:String}{af:Array Edge}{gd:Option (Nat×Bool)}(hd:d<n)
  (ht:P.underlying t=some (.map kt et))(hx:st.eval x=.d (.mp agg (l.map λp=>(kv p.1,enc p.2))))(hxk:cD x=true):
  Step P n ⟨some d,.range t x,ty,pos,af,gd⟩ st (λs=>∃q r bs ck,dG l bs []=l/\s=⟨upd st.env d (.d (.lit (.pointer (some ⟨q,0,none⟩)))),(st.objs++[aFd kv av l r bs ck])++[.iter q r ck [] ck]⟩):=by
 intro A M w0 ac w hR K Q hK;have h:=hR.eval' hxk;rw[hx] at h
 generalize hu:ac.eval x=u at h
 cases h with
 | d h=>
  obtain⟨r,bs,ck,rfl,hlen,hfact,ms,hh⟩:=cGt ha h;have hrun:(execOp ac.eval ⟨some d,.range t x,ty,pos,af,gd⟩).run P w=.ok (.value (.pointer (some ⟨w.heap.size,0,none⟩))) (w.alloc (.mapIter (some r) ck #[] ck)):=by
   simp[execOp,hu,Instr.range,run_underlying ht,eQ hh]
  unfold Oper.wp;rw[hrun,Oper.upon_value];refine hK _ _ _ ⟨w.heap.size,r,bs,ck,bVq hlen,rfl⟩ ?_;have hR1:=hR.add (w':=w) (m:=aFd kv av l r bs ck) (Keeps.refl _ _) (λb o hf=>hf.elim) (λhm=>by
   obtain⟨h1,h2⟩:=hfact;exact⟨λ_ _ h=>h.elim,λw' X' hm' hk'=>h2 w' X' (hm.trans hm') hk'⟩)
  have hR':=hR1.add (w':=w.alloc (.mapIter (some r) ck #[] ck)) (m:=.iter w.heap.size r ck [] ck) (Keeps.alloc _ _ _) (λb o hf=>by simp[MO.foot] at hf;omega) (λhm=>by
   show(w.alloc (.mapIter (some r) ck #[] ck)).heap[w.heap.size]?=_;exact heap_alloc_new w _)
  exact hR'.put (o:=⟨some d,.range t x,ty,pos,af,gd⟩) rfl hd (.of_lit rfl)
theorem bXk[Mode]{α β:Type}{kv:α->Value}{av:β->AV}{l:List (α×β)}{x:Operand}{q r mi mm:Nat}{bs seen:List Nat}{ck:Nat}{ty:TypeId}{pos:String}{af:Array Edge}{gd:Option (Nat×Bool)}(hd:d<n)
  (hx:st.eval x=.d (.lit (.pointer (some ⟨q,0,none⟩))))(hi:st.objs[mi]?=some (.iter q r ck seen ck))(ho:st.objs[mm]?=some (aFd kv av l r bs ck)):
  Step P n ⟨some d,.next x false,ty,pos,af,gd⟩ st (λs=>(dG l bs seen=[]/\s=st.set d (.tup [.d (.lit (.bool false))]))\/
   ∃(j b:Nat) (p:α×β),(bs.Pairwise (·<·)/\l[j]?=some p/\bs[j]?=some b/\b∉seen)/\s=⟨upd st.env d (.tup [.d (.lit (.bool true)),.any,.any]),st.objs.set mi (.iter q r ck (seen++[b]) ck)⟩):=by
 intro A M w0 ac w hR K Q hK;obtain⟨ms,hh,hms,hb1,hb2,hb3⟩:=bIv (hR.inv.holds _ (i8 ho));have hq:w.heap[q]?=some (.mapIter (some r) ck seen.toArray ck):=hR.inv.holds _ (i8 hi);have hlen:bs.length=l.length:=by rw[<-hb1,m8,hms.len,m8]
 have hbj:∀j (hj:j<ms.toList.length),bs[j]?=some ms.toList[j].born:=by intro j hj;rw[<-hb1,p8,g9 hj];rfl
 rcases run_next_at (P:=P) w ty q r ck ck seen.toArray ms ck hq hh (λe he=>hb3 _ (by rw[<-hb1];exact List.mem_map_of_mem he)) (n5 _) with⟨h0,hrun⟩|⟨e,he,w1,hw1,hrun⟩
 ·unfold Oper.wp;have hrun':(execOp ac.eval ⟨some d,.next x false,ty,pos,af,gd⟩).run P w=.ok (.value (.tuple #[.bool false])) w:=by
   simp[execOp,hR.lit hx,hrun]
  rw[hrun',Oper.upon_value];refine hK _ _ _ (.inl ⟨?_,rfl⟩) (hR.put (o:=⟨some d,.next x false,ty,pos,af,gd⟩) rfl hd (.tup (us:=[_]) rfl λi hi=>by
   match i,hi with
   |0,_=>exact .d (.lit _ rfl)))
  unfold dG;rw[List.map_eq_nil_iff,aD7];intro z hz;have hz2:=(List.of_mem_zip hz).2;rw[<-hb1] at hz2;obtain⟨e,he,hez⟩:=l5.1 hz2;have h1:leftOf ms seen.toArray= #[]:=Array.eq_empty_of_size_eq_zero h0;have h2:e∉(leftOf ms seen.toArray):=by rw[h1];simp
  simp only[leftOf,Array.mem_filter,not_and] at h2;have:=h2 (by simpa using he)
  simp at this
  simp[<-hez,this]
 ·unfold Oper.wp;have hrun':(execOp ac.eval ⟨some d,.next x false,ty,pos,af,gd⟩).run P w=.ok (.value (.tuple #[.bool true,e.key,e.val])) (ChangeMaps.setBlock w1 q (.mapIter (some r) ck (seen.toArray.push e.born) ck)):=by
   simp[execOp,hR.lit hx,hrun]
  rw[hrun',Oper.upon_value];obtain⟨hem,hes⟩:=mem_left he;obtain⟨j,hj,rfl⟩:=n6 hem;have hjl:j<l.length:=by rw[<-hlen,<-hb1];simpa using hj
  refine hK _ _ _ (.inr ⟨j,ms.toList[j].born,l[j],⟨hb2,g9 hjl,hbj j hj,by simpa using hes⟩,rfl⟩) ?_;exact(cAs hR hi hw1).put (o:=⟨some d,.next x false,ty,pos,af,gd⟩) rfl hd (.tup (us:=[_,_,_]) rfl λi hi=>by
   match i,hi with
   |0,_=>exact .d (.lit _ rfl)
   |1,_=>exact .any _
   |2,_=>exact .any _)
theorem bSh[Mode]{α β:Type}{kv:α->Value}{av:β->AV}{l:List (α×β)}{x:Operand}{q r mi mm j b:Nat}{p:α×β}{bs seen:List Nat}{ck:Nat}{ka:AV}{ty:TypeId}{pos:String}{af:Array Edge}{gd:Option (Nat×Bool)}(hd:d<n)
  (hx:st.eval x=.d (.lit (.pointer (some ⟨q,0,none⟩))))(hi:st.objs[mi]?=some (.iter q r ck (seen++[b]) ck))(ho:st.objs[mm]?=some (aFd kv av l r bs ck))
  (hp:bs.Pairwise (·<·)/\l[j]?=some p/\bs[j]?=some b/\b∉seen)(hk:∀w X,VR w X ka (kv p.1)):
  aQ P n ⟨some d,.entry x,ty,pos,af,gd⟩ st (st.set d (.tup [ka,av p.2])):=
 cG rfl hd λA M w0 ac w hR=>by
  obtain⟨ms,hh,hms,hb1,hb2,hb3⟩:=bIv (hR.inv.holds _ (i8 ho));have hq:w.heap[q]?=some (.mapIter (some r) ck (seen++[b]).toArray ck):=hR.inv.holds _ (i8 hi);obtain⟨e,he,hv⟩:=hms.get (j:=j) (e:=(kv p.1,av p.2)) (by simp[hp.2.1]);have hborn:e.born=b:=by
   have:=hp.2.2.1;rw[<-hb1] at this;simp only[p8,he,aE2,m7] at this;exact this
  have hkey:e.key=kv p.1:=by
   have:=aA5 (λz=>z[j]?) hms.keys;simp only[p8,he,hp.2.1,aE2,m7] at this;exact this
  have hq2:w.heap[q]?=some (.mapIter (some r) ck (seen.toArray.push e.born) ck):=by rw[hq,hborn];simp
  have hrun:=run_entry_at (P:=P) w q r ck seen.toArray ms ck e hq2 hh (i8 he) (by rw[hb1];exact hb2.imp λh=>Nat.ne_of_lt h);refine⟨.tuple #[e.key,e.val],by simp[execOp,hR.lit hx,hrun],.tup (us:=[_,_]) rfl λi hi=>by
   match i,hi with
   |0,_=>exact hkey▸hk _ _
   |1,_=>exact hv⟩
end
section
variable{P:Program}{n d:Nat}{st:St}
def cJx(i j:Nat):Option Nat:=if j<i then some j else if j=i then none else some (j-1)
theorem er{α:Type}{l:List α}{i j:Nat}(j':Nat){x:α}(hj:cJx i j'=some j)(h:l[j']?=some x):(l.eraseIdx i)[j]?=some x:=by
 unfold cJx at hj;split at hj
 ·cases hj;rw[List.getElem?_eraseIdx,if_pos (by assumption)];exact h
 ·split at hj
  ·cases hj
  ·cases hj;rw[List.getElem?_eraseIdx,if_neg (by omega),show j'-1+1=j' by omega];exact h
theorem aNz[Mode]{env:Nat->AV}{objs objs':List MO}(h:objs.Perm objs'):Ent ⟨env,objs⟩ ⟨env,objs'⟩:=
 oL (gone:=[]) (by simpa using h) λ_=>.same _
theorem bMp[Mode]{c:Callee}{l:List Operand}{f:FuncId}{args args':List AV}{e k:Nat}{rows:List (List D)}{ts:Array TypeId}{ty:TypeId}{pos:String}{af:Array Edge}{gd:Option (Nat×Bool)}(hd:d<n)
  {a0:List AV}(hc:lH P st c l f a0)(ha:a0=args)(hok:fU l=true)(hb:BVs st.objs args args')(hf:aX P f args' [] (λr' o'=>∃w,r'=.d (.lit w)/\o'=[.arr w e k rows]))(hp:dY rows.flatten=true):
  Step P n ⟨some d,.call {callee:=c,args:=l.toArray,argTypes:=ts},ty,pos,af,gd⟩ st (λs=>∃w,s=(st.setadd d (.d (.lit w)) (.arr w e k rows))):=by
 intro A M w0 a w hR K Q hK;refine cCf (passed:=[]) hd rfl hc ha hok hb hf pmn (by rintro _ _ ⟨w,rfl,rfl⟩;exact⟨rfl,pmc (bWu hp) pmn⟩) A M w0 a w hR K Q ?_;rintro s a' w' ⟨_,_,⟨v,rfl,rfl⟩,rfl⟩ hR';refine hK _ a' w' ⟨v,rfl⟩ (aNz ?_ A M w0 n a' w' hR');exact u9
end
end Go.Am
end
end
end
section
section
namespace Go.Am
theorem ad0:∀i,i<([]:List AV).length->AD (([]:List AV).getD i .any) (([]:List D).getD i (.lit undef)):=λ_ h=>by simp at h
theorem ad1{x:AV}{d:D}(h:AD x d):∀i,i<[x].length->AD ([x].getD i .any) ([d].getD i (.lit undef))
 |0,_=>h
theorem ad2{x y:AV}{d e:D}(h:AD x d)(h':AD y e):∀i,i<[x,y].length->AD ([x,y].getD i .any) ([d,e].getD i (.lit undef))
 |0,_=>h
 |1,_=>h'
theorem aFs{fs:List MO}{m:Bool}{f:FuncId}{x y:D}(h:DV fs x y):DV fs (.fc m f [x]) (.fc m f [y]):=
 .fc m f _ _ rfl λj hj=>match j,hj with|0,_=>h
theorem aYo{fs:List MO}{m:Bool}{f:FuncId}{x y z u:D}(h:DV fs x y)(h':DV fs z u):DV fs (.fc m f [x,z]) (.fc m f [y,u]):=
 .fc m f _ _ rfl λj hj=>match j,hj with|0,_=>h|1,_=>h'
theorem aBc{fs:List MO}{b o:Nat}{x y:D}(i:Nat)(ho:fs[i]?=some (.box b o [x]))(h:DV fs x y):DV fs (.lit (.pointer (some ⟨b,o,none⟩))) (.pt [y]):=
 .box b o [x] [y] (i8 ho) rfl λj hj=>match j,hj with|0,_=>h
theorem aYp{fs:List MO}{x y:D}(h:DV fs x y):DV fs (.pt [x]) (.pt [y]):=.ptc _ _ rfl λj hj=>match j,hj with|0,_=>h
theorem bTz(a b:Str):((⟨a.toArray⟩:ByteArray)==⟨b.toArray⟩)=decide (a=b):=by
 rw[show((⟨a.toArray⟩:ByteArray)==⟨b.toArray⟩)=(a.toArray==b.toArray) from rfl]
 by_cases h:a=b<;>simp[h]
theorem aUz(a:Str):∀(l:List Str) (ms:List MapEntry) (i:Nat),ms.map (·.key)=l.map sv->
  Instr.findNow .string (sv a) ms i=some ((eT a l).bind λj=>(ms[j]?).map λe=>(i+j,e.val))
 |[],[],_,_=>by simp[Instr.findNow,eT]
 | b::l,m::ms,i,h=>by
  simp only[j3,aC7] at h;have ih:=aUz a l ms (i+1) h.2;simp only[Instr.findNow,h.1,sv,Instr.sameNow,eT,bTz]
  by_cases hab:a=b
  ·simp[hab]
  ·simp only[hab,m5,g6];rw[show Value.string ⟨a.toArray⟩=sv a from rfl,ih];cases eT a l with
   |none=>rfl
   |some j=>simp[Nat.add_assoc,aH5 1 j]
 |[],_::_,_,h=>by simp at h
 |_::_,[],_,h=>by simp at h
theorem bEj{P:Program}{kt:TypeId}(hu:P.underlying kt=some .string):kU P kt sv where
 chk b a w:=by
  rw[show(10000:Nat)=9999+1 from rfl]
  generalize(9999:Nat)=m
  simp only[Instr.checkKey,Sem.run_bind,run_underlying hu,Result.andThen_ok]
  rfl
 find a l ms w h:=by simp[Instr.findKey,run_underlying hu,aUz a l ms 0 h]
 stays a w:=by simp[Instr.keyThatStays,Instr.sameBits,sv,bTz]
 inj a b h:=by
  simp only[sv,Value.string.injEq] at h;have:=aA5 (λx=>x.data.toList) h
  simpa using this
theorem cCh[Mode]{P:Program}{n:Nat}{st:St}{t kt et:TypeId}{α β:Type}[DecidableEq α]{kv:α->Value}{av:β->AV}{l:List (α×β)}{v:β}{a:α}{x y q:Operand}{r m:Nat}{bs:List Nat}{clock:Nat}{ty:TypeId}{pos:String}{af:Array Edge}{gd:Option (Nat×Bool)}
  (hk:kU P kt kv)(ht:P.underlying t=some (.map kt et))
  (hx:st.eval x=.d (.lit (.map (some r))))(ho:st.objs[m]?=some (.map r (l.map λp=>(kv p.1,av p.2)) bs clock))(hyk:cD y=true){yv:AV}(hyv:st.eval y=yv)(hy:qD kv yv a)(hqk:cD q=true)(hq:st.eval q=av v):
  aQ P n ⟨none,.insert t x y q,ty,pos,af,gd⟩ st ⟨st.env,st.objs.set m (.map r ((dE a v l).map λp=>(kv p.1,av p.2)) (mbs a l bs clock) (mck a l clock))⟩:=by
 intro A M w0 ac w hR K Q hK;have:=aLs (n:=n) (ty:=ty) (pos:=pos) (af:=af) (gd:=gd) hk ht hx ho hyk hyv hy hqk hq A M w0 ac w hR K Q hK;unfold Oper.wp at this|-;exact this
section
variable{P:Program}{n:Nat}{st:St}{Q:Exit->St->Prop}{α β:Type}[DecidableEq α]
theorem bIx{a:α}{v:β}:∀{l:List (α×β)},(∀p∈l,p.1≠a)->dE a v l=l++[(a,v)]
 |[],_=>rfl
 | (b,u)::l,h=>by
  have h1:¬a=b:=λe=>h (b,u) (by simp) e.symm;simp only[dE,h1,m5,g6,aA4,bIx λp hp=>h p (j5 _ hp)]
theorem bHy{γ:Type}{S:Nat->Bool}{i:Nat}{ins:List (Nat×γ)}(h:∀p∈ins,p.1≠i):ins.filter (λp=>Nat.beq p.1 i||S p.1)=ins.filter λp=>S p.1:=
 List.filter_congr λp hp=>by
  have:Nat.beq p.1 i=false:=by
   cases hb:Nat.beq p.1 i with
   |false=>rfl
   |true=>exact absurd (f7 hb) (h p hp)
  simp[this]
theorem bNp{γ:Type}{S:Nat->Bool}{i:Nat}{x:γ}(hS:S i=false):∀{ins:List (Nat×γ)},(ins.map (·.1)).Nodup->(i,x)∈ins->(ins.filter λp=>Nat.beq p.1 i||S p.1).Perm ((i,x)::ins.filter λp=>S p.1)
 |[],_,h=>by simp at h
 | p ::ins,hn,h=>by
  simp only[j3,w6,l5,not_exists,not_and] at hn
  rcases l4.1 h with rfl|h
  ·have:ins.filter (λp=>Nat.beq p.1 i||S p.1)=ins.filter λp=>S p.1:=bHy λp hp e=>hn.1 p hp e;simp only[aD0,aH6,hS,this]
   simp
  ·have ih:=bNp (x:=x) hS hn.2 h;have hne:Nat.beq p.1 i=false:=by
    cases hb:Nat.beq p.1 i with
    |false=>rfl
    |true=>exact absurd (f7 hb).symm (hn.1 (i,x) h)
   simp only[aD0,hne,aB0];cases S p.1 with
   |true=>exact(List.Perm.cons _ ih).trans (.swap _ _ _)
   |false=>exact ih
def MOp[Mode](P:Program)(n:Nat)(ops:Array Oper)(tab:Nat->Tab)(base:Nat->AV)(f:α×β->Value×AV)(ins:List (Nat×α×β))(o:Oper)(i:Nat)(yn:List Nat×List Nat):Prop:=
 (∀(S:Nat->Bool) (r:Nat) (objs:List MO),Knows S yn.1 yn.2->∃d v,find (tab r) d=some (i,v)/\GStep P n ops o ⟨ov (tab r) S base,objs⟩ ⟨upd (ov (tab r) S base) d v,objs⟩)/\(ins.all λp=>!Nat.beq p.1 i)=true\/
 ∃ a v,(i,a,v)∈ins/\aY 0 yn.1=true/\o.guard=none/\∀(S:Nat->Bool) (r:Nat) (objs:List MO) (m:Nat) (l:List (α×β)) (bs:List Nat) (ck:Nat),Knows S yn.1 yn.2->objs[m]?=some (.map r (l.map f) bs ck)->
  aQ P n o ⟨ov (tab r) S base,objs⟩ ⟨ov (tab r) S base,objs.set m (.map r ((dE a v l).map f) (mbs a l bs ck) (mck a l ck))⟩
def AllM[Mode](P:Program)(n:Nat)(ops:Array Oper)(tab:Nat->Tab)(base:Nat->AV)(f:α×β->Value×AV)(ins:List (Nat×α×β)):List Oper->List (List Nat×List Nat)->Nat->Prop
 |[],_,_=>True
 |o::l,yn,i=>MOp P n ops tab base f ins o i (yn.headD ([],[]))/\AllM P n ops tab base f ins l yn.tail (i+1)
theorem AllM.get[Mode]{ops:Array Oper}{tab:Nat->Tab}{base:Nat->AV}{f:α×β->Value×AV}{ins:List (Nat×α×β)}:∀{l:List Oper} {yn:List (List Nat×List Nat)} {k:Nat},AllM P n ops tab base f ins l yn k->∀{i:Nat} {o:Oper},l[i]?=some o->
  MOp P n ops tab base f ins o (k+i) (yn.getD i ([],[]))
 |[],_,_,_,i,o,h=>by simp at h
 | _::_,yn,k,h,0,o,ho=>by
  simp at ho;subst ho
  have:=h.1;cases yn<;>simpa using this
 | _::l,yn,k,h,i+1,o,ho=>by
  have:=h.2.get (i:=i) (by simpa using ho);rw[show k+1+i=k+(i+1) by omega] at this;cases yn with
  |nil=>simpa using this
  |cons y yn=>simpa using this
theorem cCr[Mode]{id:Nat}{l rest:List Oper}{o0:Oper}(hl:l=o0::rest)(m dm:Nat)(tab0:Tab)(f:α×β->Value×AV)(ins:List (Nat×α×β))(hm:P.follows .mixedOrders=true)(hb:zE l=true)(hbe:vL (cW l l.length) m l.length=true)
  (hml:Nat.ble m l.length=true)(hown:∀r,lW ((dm,0,.d (.lit (.map (some r))))::tab0)=true)(htab:((dm,0,AV.any)::tab0).all (λx=>Nat.blt x.2.1 m)=true)(hi1:(ins.map (·.1)).Nodup)(hi2:(ins.map (·.2.1)).Nodup)(hi3:(ins.all λp=>Nat.blt p.1 m&&!Nat.beq p.1 0)=true)
  (hti:(tab0.all λx=>ins.all λp=>!Nat.beq x.2.1 p.1)=true)(hg0:o0.guard=none)(h0:∀(s:St),Step P n o0 s (λs'=>∃r,s'=⟨upd s.env dm (.d (.lit (.map (some r)))),s.objs++[.map r [] [] 0]⟩))
  (yn:List (List Nat×List Nat))(hyn:aQa (cW l l.length) m yn=true)(hsteps:AllM P n l.toArray (λr=>(dm,0,.d (.lit (.map (some r))))::tab0) st.env f ins ((l.take m).drop 1) (yn.drop 1) 1)
  (htail:∀r (es:List (α×β)) bs ck,es.Perm (ins.map (·.2))->TrL P n l.toArray (l.drop m) ⟨ov ((dm,0,.d (.lit (.map (some r))))::tab0) (λ_=>true) st.env,st.objs++[.map r (es.map f) bs ck]⟩ Q):
  Tr P n (.region id l.toArray true) st Q:=by
 have hm0:0<m:=by
  simp only[aA9,f4] at htab;exact aC htab.1
 have hcov:∀(r:Nat) (S S':Nat->Bool),(∀j,j<m->S' j=S j)->ov ((dm,0,.d (.lit (.map (some r))))::tab0) S' st.env=ov ((dm,0,.d (.lit (.map (some r))))::tab0) S st.env:=by
  intro r S S' hS
  funext k
  unfold ov;cases hf:find ((dm,0,.d (.lit (.map (some r))))::tab0) k with
  |none=>rfl
  | some p=>
   obtain⟨j,v⟩:=p;have hjm:j<m:=by
    have hmem:=aAi hf;simp only[aA9,f4] at htab
    rcases l4.1 hmem with h|h
    ·cases h;exact hm0
    ·exact aC (k6.1 htab.2 _ h)
   simp[hS j hjm]
 refine aPu m (λS st'=>∃r,st'.env=ov ((dm,0,.d (.lit (.map (some r))))::tab0) S st.env/\((S 0=false/\st'.objs=st.objs/\∀p∈ins,S p.1=false)\/(S 0=true/\∃(es:List (α×β)) (bs:List Nat) (ck:Nat),st'.objs=st.objs++[.map r (es.map f) bs ck]/\es.Perm ((ins.filter λp=>S p.1).map (·.2)))))
  hm hb hbe hml yn hyn ?_ ?_ ?_ ?_
 ·refine⟨0,?_,.inl ⟨rfl,rfl,λ_ _=>rfl⟩⟩
  funext k
  unfold ov;cases hf:find ((dm,0,.d (.lit (.map (some 0))))::tab0) k with
  |none=>rfl
  |some p=>rfl
 ·rintro S S' st' hS ⟨r,he,ho⟩;have hin:∀p∈ins,S' p.1=S p.1:=λp hp=>hS _ (by
   have:=k6.1 hi3 p hp;simp only[f4] at this;exact aC this.1)
  refine⟨r,by rw[he,hcov r S S' hS],?_⟩;rw[hS 0 hm0];refine ho.imp (λh=>⟨h.1,h.2.1,λp hp=>by rw[hin p hp];exact h.2.2 p hp⟩) λh=>⟨h.1,?_⟩;obtain⟨es,bs,ck,h1,h2⟩:=h.2;exact⟨es,bs,ck,h1,by rwa[List.filter_congr λp hp=>hin p hp]⟩
 ·rintro i o hoi S st' ⟨r,he,ho⟩ hSi hk;cases i with
  | zero=>
   have:o=o0:=by
    subst hl;cases m with
    |zero=>omega
    |succ m=>simp at hoi;exact hoi.symm
   subst this;refine .inl ⟨λ_ _ _ _ _ _=>by simp[Region.wanted,hg0],λA M w0 a w hR K Q' hK=>h0 st' A M w0 a w hR K Q' ?_⟩;rintro s a' w' ⟨r',rfl⟩ hR'
   rcases ho with⟨_,ho,hno⟩|⟨h1,_⟩
   ·refine hK _ a' w' ⟨_,⟨r',?_,.inr ⟨rfl,[],[],0,by rw[ho];rfl,?_⟩⟩,Ent.refl _⟩ hR'
    ·show upd st'.env dm _=_;rw[he]
     funext k
     rw[aIf (d:=dm) (v:=.d (.lit (.map (some r')))) (hown r') (by simp[find]) k]
     by_cases hk':dm=k
     ·subst hk';rw[fD,fD]
     ·rw[lC _ _ hk',lC _ _ hk'];have hb':Nat.beq dm k=false:=by
       cases hb':Nat.beq dm k with
       |false=>rfl
       |true=>exact absurd (f7 hb') hk'
      simp[ov,find,hb']
    ·have:(ins.filter λp=>Nat.beq p.1 0||S p.1)=[]:=aD7.2 λp hp=>by
      have h3:=k6.1 hi3 p hp;simp only[f4,l6] at h3
      simp[h3.2,hno p hp]
     rw[this];exact .refl _
   ·rw[hSi] at h1;cases h1
  | succ i=>
   have hoi':((l.take m).drop 1)[i]?=some o:=by rw[aG9,aH5];exact hoi
   have hop:=hsteps.get hoi';rw[aH5 1 i] at hop;have hyd:(yn.drop 1).getD i ([],[])=yn.getD (i+1) ([],[]):=by simp[List.getD,aG9,aH5]
   rw[hyd] at hop;have h00:(Nat.beq 0 (i+1)||S 0)=S 0:=by rw[show Nat.beq 0 (i+1)=false from rfl,aB0]
   obtain⟨env',objs'⟩:=st';simp only at he ho;subst he
   rcases hop with⟨hp,hni⟩|⟨a,v,hin,h0y,hg,hst⟩
   ·obtain⟨d,v,hf,hg⟩:=hp S r objs' hk;have hni':∀p∈ins,p.1≠i+1:=λp hp e=>by
     have:=k6.1 hni p hp;rw[e,aH6] at this;cases this
    refine hg.toP ⟨_,⟨r,funext λk=>(aIf (hown r) hf k).symm,?_⟩,Ent.refl _⟩;refine Or.imp (λ(h:S 0=false/\_/\_)=>⟨h00.trans h.1,h.2⟩) (λ(h:S 0=true/\_)=>⟨h00.trans h.1,h.2⟩) (?_:(S 0=false/\_/\_)\/(S 0=true/\_));refine ho.imp (λh=>⟨h.1,h.2.1,λp hp=>?_⟩) λh=>⟨h.1,?_⟩
    ·have:Nat.beq p.1 (i+1)=false:=by
      cases hb:Nat.beq p.1 (i+1) with
      |false=>rfl
      |true=>exact absurd (f7 hb) (hni' p hp)
     simp[this,h.2.2 p hp]
    ·obtain⟨es,bs,ck,h1,h2⟩:=h.2;exact⟨es,bs,ck,h1,by rwa[bHy hni']⟩
   ·have hS0:S 0=true:=hk.y 0 h0y
    rcases ho with⟨h1,_⟩|⟨_,es,bs,ck,rfl,hper⟩
    ·rw[hS0] at h1;cases h1
    have hmi:(st.objs++[MO.map r (es.map f) bs ck])[st.objs.length]?=some (.map r (es.map f) bs ck):=by simp
    have hstep:=hst S r _ st.objs.length es bs ck hk hmi;have hset:(st.objs++[MO.map r (es.map f) bs ck]).set st.objs.length (.map r ((dE a v es).map f) (mbs a es bs ck) (mck a es ck))=st.objs++[.map r ((dE a v es).map f) (mbs a es bs ck) (mck a es ck)]:=by
     rw[List.set_append_right _ _ (n5 _)];simp
    rw [hset] at hstep;have hnew:∀p∈es,p.1≠a:=by
     intro p hp e;have hmem:=hper.mem_iff.1 hp;obtain⟨q,hq,rfl⟩:=l5.1 hmem;obtain⟨hq1,hq2⟩:=z6.1 hq;have:q=(i+1,a,v):=by
      have hinj:∀{ps:List (Nat×α×β)},(ps.map (·.2.1)).Nodup->∀{x y},x∈ps->y∈ps->x.2.1=y.2.1->x=y:=by
       intro ps
       induction ps with
       |nil=>intro _ x y hx;simp at hx
       | cons p ps ih=>
        intro hn x y hx hy e;simp only[j3,w6,l5,not_exists,not_and] at hn
        rcases l4.1 hx with hx|hx<;>rcases l4.1 hy with hy|hy
        ·exact hx.trans hy.symm
        ·exact absurd (by rw[<-e,hx]) (hn.1 y hy)
        ·exact absurd (by rw[e,hy]) (hn.1 x hx)
        ·exact ih hn.2 hx hy e
      exact hinj hi2 hq1 hin e
     subst this;rw[hSi] at hq2;cases hq2
    refine .inl ⟨λ_ _ _ _ _ _=>by simp[Region.wanted,hg],λA M w0 a' w hR K Q' hK=>hstep A M w0 a' w hR K Q' ?_⟩;rintro s a2 w2 rfl hR2;refine hK _ a2 w2 ⟨_,⟨r,?_,.inr ⟨h00.trans hS0,dE a v es,mbs a es bs ck,mck a es ck,rfl,?_⟩⟩,Ent.refl _⟩ hR2
    ·funext k
     show ov ((dm,0,.d (.lit (.map (some r))))::tab0) S st.env k=_;unfold ov;cases hf:find ((dm,0,.d (.lit (.map (some r))))::tab0) k with
     |none=>rfl
     | some p=>
      obtain⟨j,v'⟩:=p;have hji:Nat.beq j (i+1)=false:=by
       rcases l4.1 (aAi hf) with h|h
       ·cases h;rfl
       ·have:=k6.1 (k6.1 hti _ h) _ hin
        simpa using this
      simp[hji]
    ·rw[bIx hnew];have h5:=(bNp hSi hi1 hin).map (·.2);refine List.Perm.trans ?_ h5.symm;simp only[j3];exact(u9).trans (.cons _ hper)
 ·rintro⟨env',objs'⟩ ⟨r,he,ho⟩;simp only at he ho;subst he
  rcases ho with⟨h1,_⟩|⟨_,es,bs,ck,rfl,hper⟩
  ·cases h1
  ·refine htail r es bs ck ?_
   rwa[List.filter_eq_self.2 λ_ _=>rfl] at hper
end
theorem bWc{α β:Type}[DecidableEq α](a:α)(z:β){l l':List (α×β)}(h:l.Perm l'):(l.map (·.1)).Nodup->bW a z l=bW a z l'/\cR a l=cR a l':=by
 induction h with
 |nil=>exactλ_=>⟨rfl,rfl⟩
 | cons p _ ih=>
  intro hn;obtain⟨b,v⟩:=p;simp only[j3,w6] at hn;obtain⟨h1,h2⟩:=ih hn.2;simp only[bW,cR,h1,h2,and_self]
 | swap p q l=>
  intro hn;obtain⟨b,v⟩:=p;obtain⟨c,u⟩:=q;simp only[j3,w6,l4,not_or] at hn;have hne:¬c=b:=hn.1.1;simp only[bW,cR]
  by_cases h1:a=b
  ·subst h1;have h2:¬a=c:=λe=>hne e.symm
   simp[h2,hne]
  ·by_cases h2:a=c<;>simp[h1,h2,hne]
 | trans h1 _ ih1 ih2=>
  intro hn;obtain⟨a1,a2⟩:=ih1 hn;obtain⟨b1,b2⟩:=ih2 ((h1.map _).nodup_iff.1 hn);exact⟨a1.trans b1,a2.trans b2⟩
def D.isFc:D->Bool
 | .fc .. =>true
 |_=>false
def D.fid:D->FuncId
 | .fc _ f _=>f
 |_=>0
def D.fargs(x:D)(args:List AV):List AV:=match x with
 | .fc m _ xs=>bif m then xs.map .d++args else args++xs.map .d
 |_=>args
structure wX[Mode](P:Program)(x:D)(args:List AV)(objs:List MO)(Q:AV->List MO->Prop):Prop where
 f:x.isFc=true
 e:∀args w,(callFunc x.fid args).run P w=.ok (.enter x.fid args) w
 c:aX P x.fid (x.fargs args) objs Q
theorem wZ[Mode]{P:Program}{f:FuncId}{args args':List AV}{objs:List MO}{Q:AV->List MO->Prop}(hb:BVs [] args args')(h:aX P f args' objs Q):aX P f args objs Q:=
 λA w vs h1 h2 h3=>h A w vs h1 h2 (hb.sound (λm hm=>by simp at hm) (λ_ _ h=>h) (λm hm=>by simp at hm) h3)
section
variable{P:Program}{n d:Nat}{st:St}
theorem aUa[Mode]{t:Nat}{x:D}{l:List Operand}{args:List AV}{Q:AV->List MO->Prop}{passed rest:List MO}{ts:Array TypeId}{ty:TypeId}{pos:String}{af:Array Edge}{gd:Option (Nat×Bool)}(hd:d<n)
  (ht:st.env t=.d x)(ho:st.objs=passed++rest)(ha:st.evals l=args)(hok:fU l=true)(h:wX P x args passed Q):
  Step P n ⟨some d,.call {callee:=.value (.tmp t),args:=l.toArray,argTypes:=ts},ty,pos,af,gd⟩ st (λs=>∃r objs',Q r objs'/\s=⟨upd st.env d r,objs'++rest⟩):=by
 cases x with
 |fc m f xs=>exact uG hd ho (.fc t f m xs l h.e ht) (by subst ha;rfl) hok h.c
 |_=>exact absurd h.f (by simp[D.isFc])
theorem bXf[Mode]{t kt et:TypeId}{es E:List (Str×List D)}{z g:List D}{b:Bool}{zv:Value}{a:Str}{x y:Operand}{ty:TypeId}{pos:String}{af:Array Edge}{gd:Option (Nat×Bool)}(hd:d<n)
  (hk:kU P kt sv)(ht:P.underlying t=some (.map kt et))(hz:∀w,(zeroValue et).run P w=.ok zv w)(hzv:∀w X,VR w X (.agg z) zv)(hp:es.Perm E)(hn:(E.map (·.1)).Nodup)
  (hx:st.eval x=.d (.mp true (es.map λp=>(sv p.1,p.2))))(hxk:cD x=true)(hyk:cD y=true)(hy:st.eval y=.d (.lit (sv a)))(hg:bW a z E=g)(hh:cR a E=b):
  aQ P n ⟨some d,.lookup t x y true,ty,pos,af,gd⟩ st (st.set d (.tup [.agg g,.d (.lit (.bool b))])):=by
 obtain⟨h1,h2⟩:=bWc a z hp ((hp.map _).nodup_iff.2 hn);have h:=aGt (n:=n) (d:=d) (st:=st) (enc:=id) (agg:=true) (ty:=ty) (pos:=pos) (af:=af) (gd:=gd) hd hk ht hz hzv hx hxk hyk hy (aKk a);rw[h1,h2,hg,hh] at h;exact h
end
end Go.Am
end
section
section
namespace Go.Am
open RowKit Go.Sort
abbrev aCj:Mode:=⟨False⟩
theorem bRc[Mode](w:World)(k:Nat)(os:Array Obj):Keeps (λ_ _=>False) w (grow (w.drewN k) os):=by
 refine⟨rfl,rfl,rfl,?_,λb hb _=>heap_grow_old (w.drewN k) os hb,λb o hb _=>cell?_grow (w.drewN k) os ⟨b,o,none⟩ hb,λb o hb _=>frozen?_grow (w.drewN k) os ⟨b,o,none⟩ hb,λ_=>Nat.le_add_right _ _⟩;show w.heap.size<=(w.heap++os).size;rw[Array.size_append];exact Nat.le_add_right _ _
theorem bVg[Mode]{P:Program}{f:FuncId}{args:List AV}{r:AV}(h:∀(A:aR) (w:World) (vs:List Value),Amb w (aU A [])->VRs w (aU A []) args vs->(∀b o,aU A [] b o->b<w.heap.size)->Calls P f vs.toArray w λe w'=>∃v,e=.returned v/\Keeps (λ_ _=>False) w w'/\(Mono w (aU A []) w' (aU A [])->VR w' (aU A []) r v)):Fn P f args r:=by
 intro A w vs hI hA hv;refine(h A w vs hI.amb hv λb o h=>h.elim (hA b o) λ⟨m,hm,_⟩=>by simp at hm).mono ?_;rintro e w' ⟨v,rfl,hk,hr⟩;have hm:Mono w (aU A []) w' (aU A []):=lR (objs:=[]) (objs':=[]) hk (λ_ _ h=>h.elim) (λ_ _ _ h=>h);exact⟨v,r,[],rfl,hk.mono (λ_ _ h=>h.elim),⟨by simp[Sep],by simp,by simp,hI.amb.on hm⟩,hr hm,by simp,rfl,rfl⟩
def bHn:Nat->Nat->Str
 |0,u=>[UInt8.ofNat (48+u)]
 |f+1,u=>if u<10 then [UInt8.ofNat (48+u)] else bHn f (u/10)++[UInt8.ofNat (48+u % 10)]
theorem bBu:∀(f u:Nat),u<10^(f+1)->bHn f u=Lib.decDigits u
 |0,u,h=>(Lib.decDigits_one (by simpa using h)).symm
 | f+1,u,h=>by
  unfold bHn
  split
  ·rename_i h0;exact(Lib.decDigits_one h0).symm
  ·rename_i h0
   rw[Lib.decDigits,dif_neg h0,bBu f (u/10) (by rw[aH7] at h;omega)]
def aZb(n:Int):Option Str:=if-9223372036854775808<=n/\n<=9223372036854775807 then some (if n<0 then 45::bHn 19 n.natAbs else bHn 19 n.toNat) else none
theorem bRa{n:Int}{r:Str}(h:aZb n=some r):(-9223372036854775808<=n/\n<=9223372036854775807)/\r=Lib.itoa n:=by
 unfold aZb at h;split at h
 ·rename_i hc
  cases h;refine⟨hc,?_⟩;unfold Lib.itoa
  split
  ·rw[bBu 19 _ (by omega)]
  ·rw[bBu 19 _ (by omega)]
 ·cases h
theorem cGi[Mode]{P:Program}{f:FuncId}(hamb:∀w X,Amb w X->Lib.TabIs P w "internal/strconv.uint64pow10" .u64 Lib.pow10Tab)
  (kit:∀(n:Int),-9223372036854775808<=n->n<=9223372036854775807->∀(w:World),Lib.TabIs P w "internal/strconv.uint64pow10" .u64 Lib.pow10Tab->Calls P f #[.int .i64 n] w λe w'=>e=.returned (.string ⟨(Lib.itoa n).toArray⟩)/\∃k os,w'=grow (w.drewN k) os)
  {n:Int}{r:Str}(h:aZb n=some r):Fn P f [.i n] (.d (.lit (sv r))):=by
 obtain⟨⟨h0,h1⟩,rfl⟩:=bRa h;refine bVg λA w vs ha hv hX=>?_
 match vs,hv with
 | [u],hv=>
  have:=hv.1.lit;subst this;refine(kit n h0 h1 w (hamb _ _ ha)).mono ?_;rintro e w' ⟨rfl,k,os,rfl⟩;exact⟨_,rfl,bRc w k os,λ_=>.of_lit rfl⟩
def zS(sep:Str):Nat->Str->List Str
 |0,s=>[s]
 |k+1,s=>if Lib.index s sep== -1 then [s] else s.take (Lib.index s sep).toNat::zS sep k (s.drop ((Lib.index s sep).toNat+sep.length))
theorem aTd(sep:Str):∀(k:Nat) (s:Str),Lib.splitB ⟨sep.toArray⟩ 0 k ⟨s.toArray⟩=(zS sep k s).map λs=>(⟨s.toArray⟩:ByteArray)
 |0,s=>rfl
 | k+1,s=>by
  have hi:Lib.indexB ⟨s.toArray⟩ ⟨sep.toArray⟩=Lib.index s sep:=by simp[Lib.indexB]
  unfold Lib.splitB zS;rw[hi]
  split
  ·rfl
  ·rw[j3,aNp,aE1,pC,pC,aNp,aF7,aC4,aTd sep k]
def bKo(s sep:Str):Option (List Str):=if s.length<4294967281/\1<=sep.length then some (zS sep (Lib.count s sep) s) else none
theorem cCp[Mode]{P:Program}{f:FuncId}{t:TypeId}(hamb:∀w X,Amb w X->∃m:Int,w.cell? ⟨0,0,none⟩=some (.int .i64 m))
  (kit:∀(s sep:ByteArray) (m:Int) (w:World),s.size<4294967281->w.cell? ⟨0,0,none⟩=some (.int .i64 m)->1<=sep.size->Calls P f #[.string s,.string sep] w λe w'=>
   e=.returned (.slice (some ⟨w.heap.size,0,none⟩) (Lib.countB s sep+1) (Lib.countB s sep+1))/\w'=w.alloc (.cells ((Lib.splitB sep 0 (Lib.countB s sep) s).map Value.string).toArray t))
  {s sep:Str}{r:List Str}(h:bKo s sep=some r):Fn P f [.d (.lit (sv s)),.d (.lit (sv sep))] (.d (.sl 1 (r.map wG))):=by
 unfold bKo at h;split at h
 ·rename_i hc
  cases h;refine bVg λA w vs ha hv hX=>?_
  match vs,hv with
  | [u,q],hv=>
   have h1:=hv.1.lit;have h2:=hv.2.1.lit;subst h1;subst h2;obtain⟨m,hm⟩:=hamb _ _ ha;have hcount:Lib.countB ⟨s.toArray⟩ ⟨sep.toArray⟩=Lib.count s sep:=by simp[Lib.countB]
   have hlen:=Lib.splitB_all ⟨sep.toArray⟩ (by rw[pC];exact hc.2) 0 _ ⟨s.toArray⟩ rfl;have hle:=Lib.countB_le ⟨sep.toArray⟩ (by rw[pC];exact hc.2) s.length ⟨s.toArray⟩ (n5 _);refine(kit ⟨s.toArray⟩ ⟨sep.toArray⟩ m w (by rw[pC];exact hc.1) hm (by rw[pC];exact hc.2)).mono ?_;rintro e w' ⟨rfl,rfl⟩;rw[hcount,pC] at hle;rw[aTd,m8,hcount] at hlen;rw[hcount,aTd];refine⟨_,rfl,Keeps.alloc _ _ _,λ_=>.d ?_⟩;have hl2:((zS sep (Lib.count s sep) s).map wG).length=Lib.count s sep+1:=by rw[m8];exact hlen
   rw[<-hl2];have hcell:∀i (hi:i<(zS sep (Lib.count s sep) s).length),(w.alloc (.cells (((zS sep (Lib.count s sep) s).map λs=>(⟨s.toArray⟩:ByteArray)).map Value.string).toArray t)).cell? ⟨w.heap.size,0+(i*1+0),none⟩=some (sv ((zS sep (Lib.count s sep) s)[i])):=by
    intro i hi;rw[show(0+(i*1+0):Nat)=i by omega];have e1:=heap_alloc_new w (.cells (((zS sep (Lib.count s sep) s).map λs=>(⟨s.toArray⟩:ByteArray)).map Value.string).toArray t);simp only[World.cell?,e1];rw[List.getElem?_toArray,p8,p8,g9 hi]
    rfl
   refine .sl 1 _ w.heap.size 0 _ (λi _=>sv ((zS sep (Lib.count s sep) s).getD i [])) (λr hr=>?_) (n5 _) ?_ (λi j hi hj=>?_) (λi j hi hj=>?_)
   ·obtain⟨x,_,rfl⟩:=l5.1 hr;rfl
   ·rw[hl2];unfold maxLen;omega
   ·rw[m8] at hi;have:j=0:=by omega
    subst this;exact⟨by rw[hcell i hi];simp[List.getD,hi],λhx=>by have:=hX _ _ hx;omega⟩
   ·rw[m8] at hi;have:j=0:=by omega
    subst this;simp only[List.getD,p8,g9 hi,aE2,u7,wG];exact .lit _ rfl
 ·cases h
end Go.Am
end
section
namespace Go.Am
def aVv(s:Str):List Int:=s.map λb=>(b.toNat:Int)
def bPy(s:Str):Option (List Int):=if s.length<=maxLen then some (aVv s) else none
theorem bLz[Mode](w:World)(e:TypeId)(s:ByteArray):Keeps (λ_ _=>False) w (Lib.bytesWorld w e s):=by
 have hb:∀b,b<w.heap.size->(Lib.bytesWorld w e s).heap[b]?=w.heap[b]?:=λb h=>Lib.bytesWorld_at_old w e s b h;refine⟨?_,?_,?_,by rw[Lib.bytesWorld_size];omega,λb h _=>hb b h,λb o h _=>World.cell?_of_block (hb b h),λb o h _=>World.frozen?_of_block (hb b h),λ_=>?_⟩
 all_goals simp only[Lib.bytesWorld,World.freeze]
 all_goals split
 all_goals simp[World.alloc,World.drew,-World.alloc_eq,-World.drew_eq]
theorem bVc(l:List Int):(l.map aFt).flatten=l.map λn=>D.lit (.int .u8 n):=by
 induction l with
 |nil=>rfl
 |cons a l ih=>simp only[j3,aB9,ih,aFt,aA4,aG4]
theorem bHr{w:World}{X:aR}:∀{l:List Int},DRs w X (l.map λn=>D.lit (.int .u8 n)) (l.map (Value.int .u8))
 |[]=>trivial
 |_::_=>⟨.lit _ rfl,bHr⟩
section
variable{P:Program}{n d:Nat}{st:St}{x y:Operand}{t u e ty:TypeId}{pos:String}{af:Array Edge}{gd:Option (Nat×Bool)}{a:Str}
theorem cHp[Mode]{l:List Int}(hd:d<n)(hx:st.eval x=.d (.lit (sv a)))(ht:P.underlying t=some .string)(hu:P.underlying u=some (.slice e))(he:P.underlying e=some (.int .u8))(h:bPy a=some l):
  aQ P n ⟨some d,.convert t u x,ty,pos,af,gd⟩ st (st.set d (.d (.sl 1 (l.map aFt)))):=by
 intro A M w0 ac w hR K Q hK;have hl:a.length<=maxLen/\l=aVv a:=by
  unfold bPy at h;split at h
  ·rename_i hc;exact⟨hc,(z7 h).symm⟩
  ·cases h
 obtain⟨hl,rfl⟩:=hl;have hrun:(execOp ac.eval ⟨some d,.convert t u x,ty,pos,af,gd⟩).run P w=.ok (.value (.slice (some ⟨w.heap.size,0,none⟩) a.length (grownCap w a.length 0 e))) (Lib.bytesWorld w e ⟨a.toArray⟩):=by
  have h1:=Lib.run_convert_string_bytes (P:=P) w t u e (⟨a.toArray⟩:ByteArray) ht hu he;rw[pC] at h1;simp only[execOp,hR.lit hx,sv,Sem.run_bind];rw[h1];rfl
 unfold Oper.wp;rw[hrun,Oper.upon_value];refine hK _ _ _ rfl ?_;have hk:=bLz w e ⟨a.toArray⟩;have hR':R A M w0 n ⟨st.env,st.objs⟩ ac (Lib.bytesWorld w e ⟨a.toArray⟩):=hR.change hk (λ_ _ h=>h.elim) (λ_ _ _ h=>h) hR.inv.sep λhm m hmm=>cI (hR.inv.holds m hmm) hk (λ_ _ _ h=>h) hm;refine hR'.put (o:=⟨some d,.convert t u x,ty,pos,af,gd⟩) rfl hd (.d ?_);have hlen:((aVv a).map aFt).length=a.length:=by simp[aVv]
 rw[<-hlen];refine DR.of_flat (vs:=(aVv a).map (Value.int .u8)) (gB (f:=aFt) λ_=>rfl) (by rw[bVc];exact bHr) (λj v hj=>?_) (λj hj hx=>?_) ?_ ?_
 ·rw[s8];have hj':j<a.length:=by
   have:=(g7.1 hj).1
   simpa[aVv] using this
  rw[Lib.bytesWorld_cell w e _ j (by rw[pC];exact hj')];simp only[aVv,aA6,p8,g9 hj',aE2,m7] at hj;rw[<-hj]
  simp[List.getD,hj']
 ·exact aCn hR _ hx
 ·rw[hlen];exact grownCap_ge w _ 0 e
 ·rw[hlen];exact grownCap_le_maxLen w _ 0 e hl
end
end Go.Am
end
end
end
