/- Several texts, one behind the other. -/
import Derived.Test.YtejdennodgdfhaaGreatDoorAmSub
import Derived.Test.YtejdennodgdfhaaGreatDoorAmFam
import Derived.Test.YtejdennodgdfhaaGreatDoorAmNd
import Derived.RangeFuncSeq
section
section
namespace Go.Am
def pB(n:Int):List D:=[.lit (.int .u8 n)]
def mE(a b:Str):Option Str:=if a.length+b.length<=9223372036854775807 then some (a++b) else none
theorem bJh{a b c:Str}(h:mE a b=some c):a.length+b.length<=9223372036854775807/\c=a++b:=by
 unfold mE at h;split at h
 ·rename_i hc;cases h;exact⟨hc,rfl⟩
 ·cases h
def sat(s:Str)(i:Int):Option Int:=if 0<=i then(s[i.toNat]?).map λb=>(b.toNat:Int) else none
theorem bMs{s:Str}{i r:Int}(h:sat s i=some r):0<=i/\∃b,s[i.toNat]?=some b/\r=b.toNat:=by
 unfold sat at h;split at h
 ·rename_i hc
  cases hb:s[i.toNat]? with
  |none=>rw[hb] at h;cases h
  |some b=>rw[hb] at h;cases h;exact⟨hc,b,rfl,rfl⟩
 ·cases h
theorem bGi(a b:Str):(⟨a.toArray⟩:ByteArray)++⟨b.toArray⟩=⟨(a++b).toArray⟩:=by
 apply ByteArray.ext;rw[ByteArray.data_append]
 simp
theorem jP(a:Str):(⟨a.toArray⟩:ByteArray).size=a.length:=rfl
theorem aUb(a:Str):(⟨a.toArray⟩:ByteArray).toList=a:=by
 rw[ByteArray.toList_eq]
theorem aHe(a:Str)(l h:Nat):(⟨a.toArray⟩:ByteArray).extract l h=⟨((a.take h).drop l).toArray⟩:=by
 apply ByteArray.ext;rw[ByteArray.data_extract]
 simp[List.extract_eq_take_drop,List.drop_take]
section
variable{P:Program}{n d:Nat}{st:St}{x y:Operand}{t u ty:TypeId}{pos:String}{af:Array Edge}{gd:Option (Nat×Bool)}{a b c:Str}
theorem aRw[Mode](hd:d<n)(hx:st.eval x=.d (.lit (sv a)))(hy:st.eval y=.d (.lit (sv b)))(h:mE a b=some c):
  aY P n ⟨some d,.binOp .add t x y u,ty,pos,af,gd⟩ st (st.set d (.d (.lit (sv c)))):=
 fQ rfl hd rfl λA M w0 ac w hR=>by
  obtain⟨h1,rfl⟩:=bJh h;have h2:¬(((⟨a.toArray⟩:ByteArray).size+(⟨b.toArray⟩:ByteArray).size:Nat):Int)>IntKind.i64.max:=by
   rw[jP,jP];simp[IntKind.max,IntKind.bits,IntKind.signed];omega
  simp only[execOp,hR.lit hx,hR.lit hy,sv,eqGuard,binOp,Op.stringOp,h2,if_false,bGi]
  rfl
theorem bOj[Mode](hd:d<n)(hx:st.eval x=.d (.lit (sv a)))(hy:st.eval y=.d (.lit (sv b))):
  aY P n ⟨some d,.binOp .eql t x y u,ty,pos,af,gd⟩ st (st.set d (.b (decide (a=b)))):=
 fQ rfl hd rfl λA M w0 ac w hR=>by
  simp only[execOp,hR.lit hx,hR.lit hy,sv,eqGuard,binOp,Op.stringOp,aUb]
  by_cases h:a=b<;>simp[h]
theorem bOm[Mode](hd:d<n)(hx:st.eval x=.d (.lit (sv a)))(hy:st.eval y=.d (.lit (sv b))):
  aY P n ⟨some d,.binOp .neq t x y u,ty,pos,af,gd⟩ st (st.set d (.b (!decide (a=b)))):=
 fQ rfl hd rfl λA M w0 ac w hR=>by
  simp only[execOp,hR.lit hx,hR.lit hy,sv,eqGuard,binOp,Op.stringOp,aUb]
  by_cases h:a=b<;>simp[h]
theorem aZz[Mode](hd:d<n)(hx:st.eval x=.d (.lit (sv a)))(ht:P.underlying t=some .string):
  aY P n ⟨some d,.call {callee:=.builtin .len,args:= #[x],argTypes:= #[t]},ty,pos,af,gd⟩ st (st.set d (.i a.length)):=
 fQ rfl hd rfl λA M w0 ac w hR=>by
  simp[execOp,resolve,hR.lit hx,sv,invoke,builtin,Builtin.len_,goInt,run_underlying ht,jP]
theorem bJg[Mode]{k:IntKind}{i r:Int}(hd:d<n)(hx:st.eval x=.d (.lit (sv a)))(hy:st.eval y=.d (.lit (.int k i)))(ht:P.underlying t=some .string)(h:sat a i=some r):
  aY P n ⟨some d,.index t x y,ty,pos,af,gd⟩ st (st.set d (.d (.lit (.int .u8 r)))):=
 fQ rfl hd rfl λA M w0 ac w hR=>by
  obtain⟨h0,b,hb,rfl⟩:=bMs h;have hg:(⟨a.toArray⟩:ByteArray)[i.toNat]?=some b:=by
   obtain⟨hlt,rfl⟩:=List.getElem?_eq_some_iff.1 hb;rw[getElem?_pos (⟨a.toArray⟩:ByteArray) i.toNat (by rw[jP];exact hlt)]
   rfl
  simp[execOp,hR.lit hx,hR.lit hy,sv,Instr.index,asIntOf,run_underlying ht,h0,hg]
theorem bSn[Mode]{lo hi:Option Operand}{p q:Int}(hd:d<n)(ht:P.underlying t=some .string)(hx:st.eval x=.d (.lit (sv a)))(hlo:kO st lo 0=some p)(hhi:kO st hi a.length=some q)(hs:sub a p q=some c):
  aY P n ⟨some d,.slice t x lo hi none,ty,pos,af,gd⟩ st (st.set d (.d (.lit (sv c)))):=
 fQ rfl hd rfl λA M w0 ac w hR=>by
  obtain⟨h1,h2,h3,rfl⟩:=aPd hs;have b1:lo=none/\p=0\/∃y kd,lo=some y/\ac.eval y=.int kd p:=by
   cases lo with
   |none=>left;simp only[kO,Option.some.injEq] at hlo;exact⟨rfl,hlo.symm⟩
   | some y=>
    right
    simp only[kO] at hlo;split at hlo
    ·rename_i kd p' he;cases hlo;exact⟨y,kd,rfl,hR.lit he⟩
    ·cases hlo
  have b2:hi=none/\q=a.length\/∃y kd,hi=some y/\ac.eval y=.int kd q:=by
   cases hi with
   |none=>left;simp only[kO,Option.some.injEq] at hhi;exact⟨rfl,hhi.symm⟩
   | some y=>
    right
    simp only[kO] at hhi;split at hhi
    ·rename_i kd p' he;cases hhi;exact⟨y,kd,rfl,hR.lit he⟩
    ·cases hhi
  have e1:(Instr.sliceBounds false a.length a.length (lo.map ac.eval) (hi.map ac.eval) none).run P w=.ok (p.toNat,q.toNat,a.length) w:=by
   rcases b1 with⟨rfl,rfl⟩|⟨y,kd,rfl,hy⟩<;>rcases b2 with⟨rfl,rfl⟩|⟨y',kd',rfl,hy'⟩
   ·simp[Instr.sliceBounds]
   ·simp[Instr.sliceBounds,Instr.sliceBound,asIntOf,hy',show 0<=q by omega,show q<=(a.length:Int) by omega]
   ·simp[Instr.sliceBounds,Instr.sliceBound,asIntOf,hy,h1,show p<=(a.length:Int) by omega]
   ·simp[Instr.sliceBounds,Instr.sliceBound,asIntOf,hy',hy,h1,show 0<=q by omega,show q<=(a.length:Int) by omega]
    intro h0
    omega
  simp[execOp,Instr.sliceAt,Instr.slice,run_underlying ht,hR.lit hx,sv,jP,e1,aHe]
end
section
variable{P:Program}{n d:Nat}{S:VS}{ty:TypeId}{pos:String}{af:Array Edge}{gd:Option (Nat×Bool)}{K:Eff->Prop}{x y:Operand}{t u:TypeId}{γ:Type}{r:γ}{a b:Str}
theorem aCb[Mode]{g:Str->Option γ}(h:(mE a b).bind g=some r)(k:∀z,g z=some r->K (.p (.d (.lit (sv z)))))(hx:S.ev x=.d (.lit (sv a)):=by exact rfl)(hy:S.ev y=.d (.lit (sv b)):=by exact rfl)(hl:Nat.ble (d+1) n=true:=by exact rfl):
  cS P n ⟨some d,.binOp .add t x y u,ty,pos,af,gd⟩ S K:=by
 obtain⟨z,hz,h⟩:=bind_some h;exact dV (us:=[]) (k z h) λ_ hA _=>aRw (Nat.le_of_ble_eq_true hl) (evS hA (by simp[Op.operands]) hx) (evS hA (by simp[Op.operands]) hy) hz
theorem aWm[Mode]{kk:IntKind}{i:Int}{g:Int->Option γ}(ht:P.underlying t=some .string)(h:(sat a i).bind g=some r)(k:∀z,g z=some r->K (.p (.d (.lit (.int .u8 z)))))(hx:S.ev x=.d (.lit (sv a)):=by exact rfl)(hy:S.ev y=.d (.lit (.int kk i)):=by exact rfl)(hl:Nat.ble (d+1) n=true:=by exact rfl):
  cS P n ⟨some d,.index t x y,ty,pos,af,gd⟩ S K:=by
 obtain⟨z,hz,h⟩:=bind_some h;exact dV (us:=[]) (k z h) λ_ hA _=>bJg (Nat.le_of_ble_eq_true hl) (evS hA (by simp[Op.operands]) hx) (evS hA (by simp[Op.operands]) hy) ht hz
theorem bSf[Mode](k:K (.p (.b (decide (a=b)))))(hx:S.ev x=.d (.lit (sv a)):=by exact rfl)(hy:S.ev y=.d (.lit (sv b)):=by exact rfl)(hl:Nat.ble (d+1) n=true:=by exact rfl):
  cS P n ⟨some d,.binOp .eql t x y u,ty,pos,af,gd⟩ S K:=
 dV (us:=[]) k λ_ hA _=>bOj (Nat.le_of_ble_eq_true hl) (evS hA (by simp[Op.operands]) hx) (evS hA (by simp[Op.operands]) hy)
theorem bEw[Mode](k:K (.p (.b (!decide (a=b)))))(hx:S.ev x=.d (.lit (sv a)):=by exact rfl)(hy:S.ev y=.d (.lit (sv b)):=by exact rfl)(hl:Nat.ble (d+1) n=true:=by exact rfl):
  cS P n ⟨some d,.binOp .neq t x y u,ty,pos,af,gd⟩ S K:=
 dV (us:=[]) k λ_ hA _=>bOm (Nat.le_of_ble_eq_true hl) (evS hA (by simp[Op.operands]) hx) (evS hA (by simp[Op.operands]) hy)
theorem zL[Mode](ht:P.underlying t=some .string)(k:K (.p (.i a.length)))(hx:S.ev x=.d (.lit (sv a)):=by exact rfl)(hl:Nat.ble (d+1) n=true:=by exact rfl):
  cS P n ⟨some d,.call {callee:=.builtin .len,args:= #[x],argTypes:= #[t]},ty,pos,af,gd⟩ S K:=
 dV (us:=[]) k λ_ hA _=>aZz (Nat.le_of_ble_eq_true hl) (evS hA (by simp[Op.operands,Call.operands]) hx) ht
def aWi(S:VS):Option Operand->Int->Option Int
 |none,z=>some z
 |some x,_=>match S.ev x with| .d (.lit (.int _ p))=>some p|_=>none
theorem bGk{S':VS}{us:List Nat}{op:Op}{lo:Option Operand}{z p:Int}{ρ:Rho}(hA:Agr op S S' us)(hm:∀x,lo=some x->x∈op.operands.toList)(h:aWi S lo z=some p):kO (S'.at ρ) lo z=some p:=by
 cases lo with
 |none=>exact h
 | some x=>
  simp only[aWi] at h;split at h
  ·rename_i kd q hq
   cases h;have:=evS (ρ:=ρ) hA (hm x rfl) hq;simp only[kO,this]
   rfl
  ·cases h
theorem aIe[Mode]{lo hi:Option Operand}{p q:Int}{g:Str->Option γ}(ht:P.underlying t=some .string)(h:(sub a p q).bind g=some r)(k:∀z,g z=some r->K (.p (.d (.lit (sv z)))))(hx:S.ev x=.d (.lit (sv a)):=by exact rfl)
  (hlo:aWi S lo 0=some p:=by exact rfl)(hhi:aWi S hi a.length=some q:=by exact rfl)(hl:Nat.ble (d+1) n=true:=by exact rfl):cS P n ⟨some d,.slice t x lo hi none,ty,pos,af,gd⟩ S K:=by
 obtain⟨z,hz,h⟩:=bind_some h;exact dV (us:=[]) (k z h) λ_ hA _=>bSn (Nat.le_of_ble_eq_true hl) ht (evS hA (by simp[Op.operands]) hx) (bGk hA (λx e=>by subst e;simp[Op.operands]) hlo) (bGk hA (λx e=>by subst e;simp[Op.operands]) hhi) hz
end
end Go.Am
end
section
namespace Go.Am
section
variable{P:Program}{n d:Nat}{st:St}{o:Oper}{f e k j:Nat}{vs:List Value}{v:Value}{α:Type}{g:α->List D}{c c':List (List α)}{row:List α}
end
theorem bAz[Mode]{env:Nat->AV}{objs:List MO}{i e k bytes:Nat}{vs:List Value}{v:Value}{α:Type}{g:α->List D}{c c':List (List α)}{row:List α}(keepers final:List MO)
  (ho:objs=keepers++[.arr v e k (row.map g)])(hi:keepers[i]?=some (.fam e k vs (c.map λr=>r.map g)))(hb:app bytes c [row]=some c')(hfi:keepers.set i (.fam e k (vs++[v]) (c'.map λr=>r.map g))=final):
  Ent ⟨env,objs⟩ ⟨env,final⟩:=by
 subst ho;subst hfi;have hc:c'=c++[row]:=by
  unfold app at hb;split at hb
  ·exact(Option.some.inj hb).symm
  ·cases hb
 subst hc;have:=bKk (env:=env) (v:=v) (rows:=row.map g) hi
 simpa using this
theorem bRk{α:Type}{fs:List MO}(i j:Nat){v0:Value}{e0 e k:Nat}{vs:List Value}{g:α->List D}{c:List (List α)}(ho:fs[i]?=some (.arr v0 e0 1 (vs.map λv=>[.lit v])))(hf:fs[j]?=some (.fam e k vs (c.map λr=>r.map g))){h:List α->List D}(hh:∀r,h r=[.sl k (r.map g)]):
  DV fs (.lit v0) (.sl 1 (c.map h)):=by
 have e1:c.map h=(c.map λr=>r.map g).map λrows=>[.sl k rows]:=by
  rw[List.map_map];exact List.map_congr_left λr _=>hh r
 rw[e1];exact .nest v0 e0 e k vs _ (List.mem_of_getElem? ho) (List.mem_of_getElem? hf)
end Go.Am
end
end
section
namespace Go.Am
def yv(l:Nat):Value:=.func (.yield l) #[] #[]
def aJv[Mode](P:Program)(l:Nat)(args:List AV)(m:MO)(Q:MO->Prop):Prop:=
 ∀ (A:bE) (w:World) (vs:List Value),Inv w A [m]->(∀b o,A b o->b<w.heap.size)->VRs w (aV A [m]) args vs->
  YieldAt Fence.wide 0 P l vs.toArray w λe w'=>e=.returned (.bool true)/\∃m',Keeps (dR [m]) w w'/\Inv w' A [m']/\(∀b o,m'.foot b o->dR [m] b o\/w.heap.size<=b)/\Q m'
section
variable{P:Program}{n d:Nat}{st:St}
theorem bQc[Mode]{t l':Nat}{l:List Operand}{args:List AV}{m:MO}{rest:List MO}{Qm:MO->Prop}{ts:Array TypeId}{ty:TypeId}{pos:String}{af:Array Edge}{gd:Option (Nat×Bool)}(hd:d<n)
  (ho:st.objs=m::rest)(ht:st.env t=.d (.lit (yv l')))(ha:st.evals l=args)(hok:iE l=true)(hy:aJv P l' args m Qm):
  aWh P n ⟨some d,.call {callee:=.value (.tmp t),args:=l.toArray,argTypes:=ts},ty,pos,af,gd⟩ st (λs=>∃m',Qm m'/\s=⟨upd st.env d (.d (.lit (.bool true))),m'::rest⟩):=by
 subst ha;intro A M w0 a w hR K Q hK;have hvs:=tG hR hok;have hv:a.eval (.tmp t)=yv l':=by
  have:=hR.env t;rw[ht] at this;exact this.lit
 have hs0:=hR.keeps.size;have hsep:=hR.inv.sep;rw[ho] at hsep;have hsp:=List.pairwise_cons.1 hsep;have hmm:m∈st.objs:=by rw[ho];simp
 have hrr:∀x∈rest,x∈st.objs:=λx hx=>by rw[ho];simp[hx]
 have hlive:∀b o,aV A st.objs b o↔aV (aV A rest) [m] b o:=by
  intro b o;rw[ho,show m::rest=[m]++rest from rfl];exact nN b o
 have hlt:∀b o,aV A rest b o->b<w.heap.size:=by
  rintro b o (h|⟨x,hx,hf⟩)
  ·exact Nat.lt_of_lt_of_le (hR.old b o h) hs0
  ·exact kH (hR.inv.holds x (hrr x hx)) hf
 have hmo:Mono w (aV A st.objs) w (aV (aV A rest) [m]):=Mono.sub λb o h=>(hlive b o).2 h;have hinv0:Inv w (aV A rest) [m]:=by
  refine⟨by simp[Sep],λx hx b o hf hX=>?_,λx hx=>?_,hR.inv.amb.on hmo⟩
  ·simp at hx;subst hx
   rcases hX with hX|⟨m',hm',hf'⟩
   ·exact hR.inv.apart x hmm b o hf hX
   ·exact hsp.1 m' hm' b o hf hf'
  ·simp at hx;subst hx
   exact bV (hR.inv.holds x hmm) (Keeps.refl (λ_ _=>False) w) (λ_ _ _ h=>h) hmo
 obtain⟨fn,tmps,assign,body,hrun,hround⟩:=hy (aV A rest) w _ hinv0 hlt (hvs.mono hmo);refine⟨λ_ _=>trivial,?_⟩;rw[Oper.semAt_eq _ _ _ (by simp)];have he:(execOp a.eval ⟨some d,.call {callee:=.value (.tmp t),args:=l.toArray,argTypes:=ts},ty,pos,af,gd⟩).run P w=.ok (.round l' fn tmps assign body) w:=by
  simp[execOp,resolve,hv,yv,Deferred.ofValue,invoke]
  simpa using hrun
 rw [he,Oper.uponIn_round];refine⟨λh=>(by cases h),?_⟩;refine RoundIn.mono (F:=Fence.wide) hround ?_;rintro e w' ⟨rfl,m',hk,hinv,hnew,hq⟩;refine hK _ _ _ ⟨m',hq,rfl⟩ ?_;have hback:Mono w' (aV (aV A rest) [m']) w' (aV A (m'::rest)):=Mono.sub λb o h=>(nN (l:=[m']) (l':=rest) b o).1 h;have hR2:R A M w0 n ⟨st.env,m'::rest⟩ a w':=by
  refine hR.change hk (λb o ⟨x,hx,hf⟩=>⟨x,by simp at hx;subst hx;exact hmm,hf⟩) (λb o hb hx=>?_) ?_ λhm x hxx=>?_
  ·obtain⟨x,hx,hf⟩:=hx
   rcases List.mem_cons.1 hx with rfl|hx
   ·rcases hnew b o hf with⟨x',hx',hf'⟩|h
    ·simp at hx';subst hx';exact⟨_,hmm,hf'⟩
    ·omega
   ·exact⟨x,hrr x hx,hf⟩
  ·refine List.pairwise_cons.2 ⟨λy hy b o h1 h2=>?_,hsp.2⟩;exact hinv.apart m' (by simp) b o h1 (.inr ⟨y,hy,h2⟩)
  ·rcases List.mem_cons.1 hxx with rfl|h
   ·exact bV (hinv.holds _ (by simp)) (Keeps.refl (λ_ _=>False) w') (λ_ _ _ h=>h) hback
   ·exact bV (hR.inv.holds x (hrr x h)) hk (λb o hf ⟨m',hm',hf'⟩=>by
     simp at hm';subst hm'
     exact hsp.1 x h b o hf' hf) hm
 exact R.put (o:=⟨some d,.call {callee:=.value (.tmp t),args:=l.toArray,argTypes:=ts},ty,pos,af,gd⟩) hR2 rfl hd (.d (.lit _ rfl))
theorem bJd[Mode]{f:FuncId}{first:List Operand}{cs:List AV}{ty:TypeId}{pos:String}{af:Array Edge}{gd:Option (Nat×Bool)}(hd:d<n)(hc:st.evals first=cs)(hok:iE first=true):
  aY P n ⟨some d,.makeFunc (.func f) first.toArray #[],ty,pos,af,gd⟩ st (st.set d (.mf f cs)):=
 cA rfl hd λA M w0 a w hR=>by
  have h:=tG hR hok;rw[hc] at h;refine⟨.func (.func f) (first.map a.eval).toArray #[],by simp[execOp,Instr.makeFunc],.mf h.length λi _=>h.getD i⟩
end
def Fst(objs:List MO)(l dd:Nat):bE:=λb o=>dR objs b o\/b=l\/b=dd
def Hst[Mode](env:Nat->AV)(tmps:Array Value)(objs:List MO)(l dd:Nat)(rec:Loop)(w:World)(X:bE):Prop:=
 (Sep objs/\∀b o,dR objs b o->b≠l/\b≠dd)/\(∀k,VR w X (env k) (tmps.getD k undef))/\(∀m∈objs,m.holds w X)/\w.heap[l]?=some (.loop rec)/\w.heap[dd]?=some (.deferred (some []))
def Est[Mode](env:Nat->AV)(tmps:Array Value)(objs:List MO)(l dd:Nat)(rec:Loop):MO:=.ext (Fst objs l dd) (Hst env tmps objs l dd rec)
theorem aEf[Mode]{env:Nat->AV}{tmps:Array Value}{objs:List MO}{l dd:Nat}{rec:Loop}{w:World}{X:bE}(h:Hst env tmps objs l dd rec w X):(Est env tmps objs l dd rec).holds w X:=by
 obtain⟨h0,h1,h2,h3,h4⟩:=h;have hl:=(Array.getElem?_eq_some_iff.1 h3).1;have hd:=(Array.getElem?_eq_some_iff.1 h4).1;refine⟨λb o hf=>?_,λw' X' hm hk=>⟨h0,λk=>(h1 k).mono hm,λm hmm=>bV (h2 m hmm) hk (λb o hf hn=>hn (.inl ⟨m,hmm,hf⟩)) hm,?_,?_⟩⟩
 ·rcases hf with⟨m,hm,hf⟩|rfl|rfl
  ·exact kH (h2 m hm) hf
  ·exact hl
  ·exact hd
 ·exact(hk.block l hl λo hn=>hn (.inr (.inl rfl))).trans h3
 ·exact(hk.block dd hd λo hn=>hn (.inr (.inr rfl))).trans h4
theorem aMh[Mode]{env:Nat->AV}{tmps:Array Value}{objs:List MO}{l dd:Nat}{rec:Loop}{w:World}{X:bE}(h:(Est env tmps objs l dd rec).holds w X):Hst env tmps objs l dd rec w X:=
 h.2 w X (Mono.refl w X) (Keeps.refl _ w)
theorem qE[Mode]{w:World}{r:Nat}{o:Obj}{Z:bE}(hz:∀o,Z r o):Keeps Z w (w.putObj r o):=by
 refine⟨rfl,rfl,rfl,by simp[World.putObj],λb hb h=>World.putObj_heap_other λe=>h 0 (e▸hz 0),λb y hb h=>?_,λb y hb h=>?_,λ_=>Nat.le_refl _⟩
 ·have:(w.putObj r o).heap[b]?=w.heap[b]?:=World.putObj_heap_other λe=>h (e▸hz y);simp only[World.cell?,this]
 ·have:(w.putObj r o).heap[b]?=w.heap[b]?:=World.putObj_heap_other λe=>h (e▸hz y);simp only[World.frozen?,this]
theorem sC{w:World}{r:Nat}{o o':Obj}{X:bE}(h:w.heap[r]?=some o')(h1:∀(c:Array Value) (e:TypeId) (z:Nat×Nat),o'≠.cells c e z)(h2:∀ms c,o'≠.map ms c):Mono w X (w.putObj r o) X:=by
 refine⟨λb y v hc hx=>⟨?_,hx⟩,λb ms c hc hx=>⟨?_,hx⟩,λb c e z hc hx=>⟨?_,hx⟩⟩
 ·by_cases hb:b=r
  ·subst hb;simp only[World.cell?,h] at hc;split at hc
   ·rename_i c e z hh;exact absurd (Option.some.inj hh) (h1 c e z)
   ·cases hc
  ·have:(w.putObj r o).heap[b]?=w.heap[b]?:=World.putObj_heap_other hb;simp only[World.cell?,this] at hc|-;exact hc
 ·by_cases hb:b=r
  ·subst hb;rw[h] at hc;exact absurd (Option.some.inj hc) (h2 ms c)
  ·rw[World.putObj_heap_other hb];exact hc
 ·by_cases hb:b=r
  ·subst hb;rw[h] at hc;exact absurd (Option.some.inj hc) (h1 c e z)
  ·rw[World.putObj_heap_other hb];exact hc
def aDw(e:Nat->AV):List Nat->List AV->Nat->AV
 |p::ps,x::xs=>aDw (upd e p x) ps xs
 |_,_=>e
theorem aPf{w:World}{X:bE}{n:Nat}:∀(ps:List Nat) (xs:List AV) (vs:List Value) (e:Nat->AV) (tmps:Array Value),tmps.size=n->(∀p∈ps,p<n)->VRs w X xs vs->(∀k,VR w X (e k) (tmps.getD k undef))->
  (∀k,VR w X (aDw e ps xs k) ((((ps.zip vs).foldl (λt (p,v)=>t.setIfInBounds p v) tmps)).getD k undef))/\((ps.zip vs).foldl (λt (p,v)=>t.setIfInBounds p v) tmps).size=n
 |[],_,_,e,tmps,hs,_,_,he=>⟨by simpa[aDw] using he,by simpa using hs⟩
 |p::ps,[],[],e,tmps,hs,_,_,he=>⟨by simpa[aDw] using he,by simpa using hs⟩
 | p::ps,x::xs,v::vs,e,tmps,hs,hp,hv,he=>by
  have:=aPf ps xs vs (upd e p x) (tmps.setIfInBounds p v) (by simpa using hs) (λq hq=>hp q (by simp[hq])) hv.2 (bCd hs (hp p (by simp)) he hv.1)
  simpa[aDw] using this
 |_::_,[],_::_,_,_,_,_,hv,_=>hv.elim
 |_::_,_::_,[],_,_,_,_,hv,_=>hv.elim
section
variable{P:Program}{n:Nat}{st:St}{Q:Exit->St->Prop}{N:St->Prop}
theorem bAm[Mode]{S S0:Type}{t:Nat}{f:FuncId}{bound:List AV}{ps:List Nat}{assign body:Code}{env:Nat->AV}(π:S->S0)(objs:S->List MO)(Y:S0->List AV->S0->Prop)(s0:S)(x0 x1:S0)
  (he:Ent st ⟨env,objs s0⟩)(hg:env t=.mf f bound)(hcf:∀args w,(callFunc f args).run P w=.ok (.enter f args) w)(h0:π s0=x0)
  (hps:∀p∈ps,p<n)(hna:sH assign=true)(hnb:sH body=true)
  (hI:∀(l:Nat) (J:S0->MO->Prop),(∀x m args x',J x m->Y x args x'->aJv P l args m (J x'))->∀m0,J x0 m0->bI P f (bound++[.d (.lit (yv l))]) [m0] (λ_ o=>∃m',J x1 m'/\o=[m']))
  (hbody:∀s args x',Y (π s) args x'->args.length=ps.length/\Tr P n assign ⟨aDw env ps args,objs s⟩ (λe s1=>e=.normal/\Tr P n body s1 (λe s2=>e=.normal/\∃s',π s'=x'/\s2.objs=objs s')))
  (hN:∀s,π s=x1->N ⟨env,objs s⟩):Tr P n (.rangeFunc (.tmp t) ps.toArray assign body) st (jI N Q):=by
 intro A M w0 a w hR hn;have hro:w0.ro=none:=hn.resolve_right (by simp[sH])
 replace hR:=he A M w0 n a w hR
 rw[hro];have hbv:VR w (aV A (objs s0)) (.mf f bound) (a.tmps.getD t undef):=by
  have:=hR.env t;exact hg▸this
 generalize hu:a.tmps.getD t undef=u at hbv
 cases hbv with
 |mf hl hb=>
 rename_i us
 have hev:a.eval (.tmp t)=.func (.func f) us.toArray #[]:=hu;refine wpIn_rangeFunc λfn _=>?_;obtain⟨rec,hrec⟩:∃rec:LoopState->Option Code->Loop,rec=λst pe=>{state:=st,pending:=pe,fn,tmps:=a.tmps,params:=ps.toArray,assign,body,defers:=w.heap.size}:=⟨_,rfl⟩;obtain⟨W1,hW1⟩:∃W1,(w.alloc (.deferred (some []))).alloc (.loop (rec .ready none))=W1:=⟨_,rfl⟩;have hL1:W1.heap[w.heap.size+1]?=some (.loop (rec .ready none)):=by
  rw[<-hW1];have:=World.alloc_heap_new (w.alloc (.deferred (some []))) (.loop (rec .ready none));rwa[World.size_alloc] at this
 have hD1:W1.heap[w.heap.size]?=some (.deferred (some [])):=by
  rw[<-hW1];have h1:=World.alloc_heap_new w (.deferred (some []));rw[<-h1];exact Go.heap_alloc_old _ _ (by simp)
 have hk1:Keeps (λ_ _=>False) w W1:=by rw[<-hW1];exact(Keeps.alloc _ w _).trans (Keeps.alloc _ _ _)
 have hs1:W1.heap.size=w.heap.size+2:=by rw[<-hW1];simp
 let l:=w.heap.size+1
 let dd:=w.heap.size
 let E:S->MO:=λs=>Est env a.tmps (objs s) l dd (rec .ready none)
 have hm1:Mono w (aV A (objs s0)) W1 (aV A [E s0]):=by
  refine gK (objs:=objs s0) (objs':=[E s0]) hk1 (λ_ _ h=>h.elim) λb o hb hx=>?_
  rcases hx with hx|⟨m,hm,hf⟩
  ·exact .inl hx
  ·simp at hm;subst hm
   rcases hf with hf|rfl|rfl
   ·exact .inr hf
   ·show aV A (objs s0) _ o;simp only[l] at hb;omega
   ·show aV A (objs s0) _ o;simp only[dd] at hb;omega
 have hinv1:Inv W1 A [E s0]:=by
  refine⟨by simp[Sep],λm hm b o hf hA=>?_,λm hm=>?_,hR.inv.amb.on hm1⟩
  ·simp at hm;subst hm
   have hlt:=Nat.lt_of_lt_of_le (hR.old b o hA) hR.keeps.size
   rcases hf with⟨m,hm,hf⟩|rfl|rfl
   ·exact hR.inv.apart m hm b o hf hA
   ·simp only[l] at hlt;omega
   ·simp only[dd] at hlt;omega
  ·simp at hm;subst hm
   exact aEf ⟨⟨hR.inv.sep,λb o ⟨m,hm,hf⟩=>by
    have:=kH (hR.inv.holds m hm) hf;simp only[l,dd]
    omega⟩,λk=>(hR.env k).mono hm1,λm hm=>bV (hR.inv.holds m hm) hk1 (λ_ _ _ h=>h) hm1,hL1,hD1⟩
 have hA1:∀b o,A b o->b<W1.heap.size:=λb o h=>by
  have:=hR.old b o h;have:=hR.keeps.size
  omega
 let J:S0->MO->Prop:=λx m=>∃s,π s=x/\m=E s
 have hround:∀x m args x',J x m->Y x args x'->aJv P l args m (J x'):=by
  rintro _ _ args x' ⟨s,rfl,rfl⟩ hY A' W vs hinv hA' hvs;obtain⟨hlen,hb⟩:=hbody s args x' hY;obtain⟨⟨es,ef⟩,e1,e2,e3,e4⟩:=aMh (hinv.holds _ (List.mem_singleton.2 rfl));have hyr:=run_yield (P:=P) (args:=vs.toArray) e3 (by rw[hrec];simp[hvs.length,hlen]);rw[hrec] at hyr;have hll:l<W.heap.size:=(Array.getElem?_eq_some_iff.1 e3).1;have hdl:dd<W.heap.size:=(Array.getElem?_eq_some_iff.1 e4).1;have hld:l≠dd:=by simp only[l,dd];omega
  let Ar:bE:=λb o=>A' b o\/b=l\/b=dd
  have hset:∀s b o,aV Ar (objs s) b o↔aV A' [E s] b o:=by
   intro s b o
   constructor
   ·rintro((h|h)|h)
    ·exact .inl h
    ·exact .inr ⟨E s,by simp,.inr h⟩
    ·exact .inr ⟨E s,by simp,.inl h⟩
   ·rintro(h|⟨m,hm,hf⟩)
    ·exact .inl (.inl h)
    ·simp at hm;subst hm
     rcases hf with hf|hf
     ·exact .inr hf
     ·exact .inl (.inr hf)
  have hmX:∀W s,Mono W (aV A' [E s]) W (aV Ar (objs s)):=λW s=>Mono.sub λb o h=>(hset s b o).1 h;have hmX':∀W s,Mono W (aV Ar (objs s)) W (aV A' [E s]):=λW s=>Mono.sub λb o h=>(hset s b o).2 h;have hup:=aPf (X:=aV Ar (objs s)) (n:=n) ps args vs env a.tmps hR.size hps (hvs.mono (hmX W s)) λk=>(e1 k).mono (hmX W s);have hRr:R Ar (dR (objs s)) ⟨W,[],some l⟩ n ⟨aDw env ps args,objs s⟩ {tmps:=(ps.zip vs).foldl (λt (p,v)=>t.setIfInBounds p v) a.tmps,defers:=[]} W:=by
   refine⟨hup.2,Marks.nil _ ⟨W,[],some l⟩ _,hup.1,⟨es,λm hm b o hf hA=>?_,λm hm=>bV (e2 m hm) (Keeps.refl (λ_ _=>False) W) (λ_ _ _ h=>h) (hmX W s),hinv.amb.on (hmX W s)⟩,Keeps.refl _ _,λm hm b o hf=>.inl ⟨m,hm,hf⟩,λb o hA=>?_⟩
   ·rcases hA with hA|hA|hA
    ·exact hinv.apart (E s) (by simp) b o (.inl ⟨m,hm,hf⟩) hA
    ·exact(ef b o ⟨m,hm,hf⟩).1 hA
    ·exact(ef b o ⟨m,hm,hf⟩).2 hA
   ·rcases hA with hA|rfl|rfl
    ·exact hA' b o hA
    ·exact hll
    ·exact hdl
  have htm:(ps.toArray.zip vs.toArray).foldl (λ(t:Array Value) (p:Nat×Value)=>t.setIfInBounds p.1 p.2) a.tmps=(ps.zip vs).foldl (λt (p,v)=>t.setIfInBounds p v) a.tmps:=by simp
  have hyr':(Instr.yield l vs.toArray).run P W=.ok (.round l fn ((ps.zip vs).foldl (λt (p,v)=>t.setIfInBounds p v) a.tmps) assign body) W:=by
   rw[<-htm];exact hyr
  refine⟨fn,_,assign,body,hyr',roundIn_of_wpIn trivial ?_⟩;refine wpIn_mono (F:=fen (some l)) (hb Ar (dR (objs s)) ⟨W,[],some l⟩ _ W hRr (.inr hna)) ?_;rintro e a1 w1 ⟨s1,⟨rfl,hb2⟩,hR1⟩;have hl1:w1.heap[l]?=some (.loop (rec .ready none)):=(hR1.keeps.block l hll λo h=>(ef l o h).1 rfl).trans e3;have hd1:w1.heap[dd]?=some (.deferred (some [])):=(hR1.keeps.block dd hdl λo h=>(ef dd o h).2 rfl).trans e4;refine⟨_,run_beginRound hl1 (by rw[hrec]),?_⟩;obtain⟨w2,hw2⟩:∃w2,w1.putObj l (.loop {rec .ready none with state:=.busy})=w2:=⟨_,rfl⟩;rw[hw2];have hl1lt:=(Array.getElem?_eq_some_iff.1 hl1).1;have hk12:Keeps (λb _=>b=l) w1 w2:=by rw[<-hw2];exact qE λ_=>rfl
  have hm12:∀X,Mono w1 X w2 X:=λX=>by rw[<-hw2];exact sC hl1 (by simp) (by simp)
  have hl2:w2.heap[l]?=some (.loop {rec .ready none with state:=.busy}):=by rw[<-hw2];exact World.putObj_heap_same hl1lt
  have hd2:w2.heap[dd]?=some (.deferred (some [])):=by rw[<-hw2];exact(World.putObj_heap_other (Ne.symm hld)).trans hd1
  have hR2:R Ar (dR s1.objs) ⟨w2,a1.defers,some l⟩ n s1 a1 w2:=by
   refine⟨hR1.size,Marks.nil _ ⟨w2,a1.defers,some l⟩ _,λk=>(hR1.env k).mono (hm12 _),⟨hR1.inv.sep,hR1.inv.apart,λm hm=>bV (hR1.inv.holds m hm) hk12 (λb o hf e=>hR1.inv.apart m hm b o hf (.inr (.inl e))) (hm12 _),hR1.inv.amb.on (hm12 _)⟩,Keeps.refl _ _,λm hm b o hf=>.inl ⟨m,hm,hf⟩,λb o hA=>?_⟩;exact Nat.lt_of_lt_of_le (Nat.lt_of_lt_of_le (hR1.old b o hA) hR1.keeps.size) hk12.size
  refine wpIn_mono (F:=fen (some l)) (hb2 Ar (dR s1.objs) ⟨w2,a1.defers,some l⟩ a1 w2 hR2 (.inr hnb)) ?_;rintro e a3 w3 ⟨s2,⟨rfl,s',hπ,hobj⟩,hR3⟩;have hap1:∀o,¬dR s1.objs l o/\¬dR s1.objs dd o:=λo=>⟨λ⟨m,hm,hf⟩=>hR1.inv.apart m hm _ _ hf (.inr (.inl rfl)),λ⟨m,hm,hf⟩=>hR1.inv.apart m hm _ _ hf (.inr (.inr rfl))⟩;have hl3:w3.heap[l]?=some (.loop {rec .ready none with state:=.busy}):=(hR3.keeps.block l (Array.getElem?_eq_some_iff.1 hl2).1 λo h=>(hap1 o).1 h).trans hl2;have hd3:w3.heap[dd]?=some (.deferred (some [])):=(hR3.keeps.block dd (Array.getElem?_eq_some_iff.1 hd2).1 λo h=>(hap1 o).2 h).trans hd2;have hl3lt:=(Array.getElem?_eq_some_iff.1 hl3).1;refine⟨_,_,run_endRound none hl3,rfl,E s',?_⟩;have hrec4:({({rec .ready none with state:=.busy}:Loop) with state:=if(none:Option Code).isNone then .ready else .done,pending:=none}:Loop)=rec .ready none:=by rw[hrec];rfl
  rw[hrec4];obtain⟨w4,hw4⟩:∃w4,w3.putObj l (.loop (rec .ready none))=w4:=⟨_,rfl⟩;rw[hw4];have hk34:Keeps (λb _=>b=l) w3 w4:=by rw[<-hw4];exact qE λ_=>rfl
  have hm34:∀X,Mono w3 X w4 X:=λX=>by rw[<-hw4];exact sC hl3 (by simp) (by simp)
  have hl4:w4.heap[l]?=some (.loop (rec .ready none)):=by rw[<-hw4];exact World.putObj_heap_same hl3lt
  have hd4:w4.heap[dd]?=some (.deferred (some [])):=by rw[<-hw4];exact(World.putObj_heap_other (Ne.symm hld)).trans hd3
  have hsz2:W.heap.size<=w2.heap.size:=Nat.le_trans hR1.keeps.size hk12.size;have hkF:Keeps (dR [E s]) W w4:=by
   have k1:Keeps (dR [E s]) W w1:=hR1.keeps.mono λb o h=>⟨E s,by simp,.inl h⟩;have k2:Keeps (dR [E s]) W w2:=k1.trans (hk12.mono λb o h=>⟨E s,by simp,.inr (.inl h)⟩);have k3:Keeps (dR [E s]) W w3:=k2.weaken hR3.keeps λb o ⟨m,hm,hf⟩=>by
    rcases hR1.own m hm b o hf with h|h
    ·exact .inl ⟨E s,by simp,.inl h⟩
    ·exact .inr h
   exact k3.trans (hk34.mono λb o h=>⟨E s,by simp,.inr (.inl h)⟩)
  have hF':∀b o,Fst (objs s') l dd b o->Fst (objs s) l dd b o\/W.heap.size<=b:=by
   rintro b o (⟨m,hm,hf⟩|h)
   ·rw[<-hobj] at hm
    rcases hR3.own m hm b o hf with⟨m1,hm1,hf1⟩|h
    ·rcases hR1.own m1 hm1 b o hf1 with h|h
     ·exact .inl (.inl h)
     ·exact .inr h
    ·exact .inr (Nat.le_trans hsz2 h)
   ·exact .inl (.inr h)
  have hmW:Mono W (aV A' [E s]) w4 (aV A' [E s']):=gK (objs:=[E s]) (objs':=[E s']) hkF (λb o h=>.inr h) λb o hb hx=>by
   rcases hx with hx|⟨m,hm,hf⟩
   ·exact .inl hx
   ·simp at hm;subst hm
    rcases hF' b o hf with h|h
    ·exact .inr ⟨E s,by simp,h⟩
    ·omega
  have hmR:Mono w3 (aV Ar (objs s')) w4 (aV A' [E s']):=(hm34 _).trans (hmX' w4 s');refine⟨hkF,⟨by simp[Sep],λm hm b o hf hA=>?_,λm hm=>?_,hinv.amb.on hmW⟩,λb o hf=>?_,s',hπ,rfl⟩
  ·simp at hm;subst hm
   rcases hf with⟨m,hm,hf⟩|hf
   ·rw[<-hobj] at hm;exact hR3.inv.apart m hm b o hf (.inl hA)
   ·exact hinv.apart (E s) (by simp) b o (.inr hf) hA
  ·simp at hm;subst hm
   refine aEf ⟨⟨by rw[<-hobj];exact hR3.inv.sep,λb o ⟨m,hm,hf⟩=>?_⟩,λk=>(e1 k).mono hmW,λm hm=>?_,hl4,hd4⟩
   ·rw[<-hobj] at hm;exact⟨λe=>hR3.inv.apart m hm b o hf (.inr (.inl e)),λe=>hR3.inv.apart m hm b o hf (.inr (.inr e))⟩
   ·rw[<-hobj] at hm;have h3:=hR3.inv.holds m hm;rw[hobj] at h3;exact bV h3 hk34 (λb o hf e=>hR3.inv.apart m hm b o hf (.inr (.inl e))) hmR
  ·rcases hF' b o hf with h|h
   ·exact .inl ⟨E s,by simp,h⟩
   ·exact .inr h
 have hbd:VRs w (aV A (objs s0)) bound us:=qR hl hb;have hargs:VRs W1 (aV A [E s0]) (bound++[.d (.lit (yv l))]) (us++[yv l]):=(hbd.mono hm1).append ⟨.d (.lit _ rfl),trivial⟩;have hcall:=hI l J hround (E s0) ⟨s0,h0,rfl⟩ A W1 (us++[yv l]) hinv1 hA1 hargs;refine⟨l,[{target:=.collected dd,args:= #[]}],W1,{target:=.fn (.func f) #[],args:=us.toArray++ #[yv l]},W1,f,(us++[yv l]).toArray,W1,?_,?_,λ_ _=>trivial,?_,λh=>(by cases h),?_⟩
 ·rw[<-hW1,hrec];exact run_enterLoop_outer _ _ _ _ _
 ·have hres:resolve a.eval (rangeCall (.tmp t) l) 0=Deferred.ofValue (a.eval (.tmp t)) #[yv l]:=by
   unfold resolve;have e:(#[Operand.const (.func (.yield l) #[] #[])]:Array Operand).map a.eval= #[yv l]:=by simp[yv,Act.eval]
   simp only[rangeCall,e]
  rw[hres,hev]
  simp[Deferred.ofValue,go_sem]
 ·simp[invoke,go_sem,hcf]
 ·refine CallsIn.mono ((callsIn_wide (n:=0)).2 hcall) ?_;rintro e w3 ⟨v,r,objs',rfl,hk,hinv,hv,hnew,m',⟨s',hπ,rfl⟩,rfl⟩;obtain⟨⟨es,ef⟩,e1,e2,e3,e4⟩:=aMh (hinv.holds _ (List.mem_singleton.2 rfl));have hld:l≠dd:=by simp only[l,dd];omega
  have hend:=run_endLoop (P:=P) e3 (by rw[hrec];simp);have hpe:(rec .ready none).pending=none:=by rw[hrec]
  rw[hpe] at hend;obtain⟨ob,hob⟩:∃ob:Loop,(Instr.endLoop l).run P w3=.ok none (w3.putObj l (.loop ob)):=⟨_,hend⟩;obtain⟨w4,hw4⟩:∃w4,w3.putObj l (.loop ob)=w4:=⟨_,rfl⟩;rw[hw4] at hob;refine⟨none,w4,hob,?_⟩;have hl3lt:=(Array.getElem?_eq_some_iff.1 e3).1;have hk34:Keeps (λb _=>b=l) w3 w4:=by rw[<-hw4];exact qE λ_=>rfl
  have hm34:∀X,Mono w3 X w4 X:=λX=>by rw[<-hw4];exact sC e3 (by simp) (by simp)
  have hd4:w4.heap[dd]?=some (.deferred (some [])):=by rw[<-hw4];exact(World.putObj_heap_other (Ne.symm hld)).trans e4
  have hmX:Mono w3 (aV A [E s']) w4 (aV A (objs s')):=(hm34 _).trans (Mono.sub λb o h=>h.imp id λh=>⟨E s',by simp,.inl h⟩);have hs0:=hR.keeps.size;have hF0:∀b o,Fst (objs s0) l dd b o->M b o\/w0.w.heap.size<=b:=by
   rintro b o (⟨m,hm,hf⟩|rfl|rfl)
   ·exact hR.own m hm b o hf
   ·exact .inr (by simp only[l];omega)
   ·exact .inr hs0
  have hF1:∀b o,dR (objs s') b o->Fst (objs s0) l dd b o\/W1.heap.size<=b:=λb o h=>by
   rcases hnew (E s') (by simp) b o (.inl h) with⟨m,hm,hf⟩|h
   ·simp at hm;subst hm;exact .inl hf
   ·exact .inr h
  refine⟨⟨env,objs s'⟩,hN s' hπ,hR.size,?_,λk=>(e1 k).mono hmX,⟨es,λm hm b o hf hA=>hinv.apart (E s') (by simp) b o (.inl ⟨m,hm,hf⟩) hA,λm hm=>bV (e2 m hm) hk34 (λb o hf e=>(ef b o ⟨m,hm,hf⟩).1 e) hmX,hinv.amb.on hmX⟩,?_,λm hm b o hf=>?_,hR.old⟩
  ·obtain⟨Ds,g1,g2,g3⟩:=hR.defers;refine⟨dd::Ds,by simp[g1],List.nodup_cons.2 ⟨λhm=>?_,g2⟩,λD hD=>?_⟩
   ·have:=(Array.getElem?_eq_some_iff.1 (g3 dd hm).1).1;simp only[dd] at this;omega
   ·rcases List.mem_cons.1 hD with rfl|hD
    ·refine⟨hd4,hs0,λo ho=>?_⟩
     rcases ho with ho|ho
     ·have:=hR.old dd o ho;simp only[dd] at this;omega
     ·exact(ef dd o ho).2 rfl
    ·obtain⟨q1,q2,q3⟩:=g3 D hD;have hlt:=(Array.getElem?_eq_some_iff.1 q1).1;have hDl:D≠l/\D≠dd:=by simp only[l,dd];omega
     have hk1w:W1.heap[D]?=some (.deferred (some [])):=(hk1.block D hlt λ_ h=>h).trans q1;have hk3w:w3.heap[D]?=some (.deferred (some [])):=(hk.block D (Array.getElem?_eq_some_iff.1 hk1w).1 λo ⟨m,hm,hf⟩=>by
      simp at hm;subst hm
      rcases hf with hf|hf|hf
      ·exact q3 o (.inr hf)
      ·exact hDl.1 hf
      ·exact hDl.2 hf).trans hk1w
     have hk4w:w4.heap[D]?=some (.deferred (some [])):=(hk34.block D (Array.getElem?_eq_some_iff.1 hk3w).1 λ_ h=>hDl.1 h).trans hk3w;refine⟨hk4w,q2,λo ho=>?_⟩
     rcases ho with ho|ho
     ·exact q3 o (.inl ho)
     ·rcases hF1 D o ho with(h|h|h)|h
      ·exact q3 o (.inr h)
      ·exact hDl.1 h
      ·exact hDl.2 h
      ·omega
  ·have k1:Keeps M w0.w W1:=hR.keeps.weaken hk1 λ_ _ h=>h.elim;have k3:Keeps M w0.w w3:=k1.weaken hk λb o ⟨m,hm,hf⟩=>by
    simp at hm;subst hm;exact hF0 b o hf
   exact k3.weaken hk34 λb o h=>by subst h;exact .inr (by simp only[l];omega)
  ·rcases hF1 b o ⟨m,hm,hf⟩ with h|h
   ·exact hF0 b o h
   ·exact .inr (by omega)
end
end Go.Am
namespace Go.Am
section
variable{P:Program}{n:Nat}{st:St}{Q:Exit->St->Prop}{N:St->Prop}
theorem aTb:∀e s,jI N (λ_ _=>False) e s->(e=.normal/\N s):=λe s h=>by
 cases e<;>first|exact⟨rfl,h⟩|exact h.elim
theorem bIi{id:Nat}:∀e s,jI N (λ_ _=>False) e s->uS id N Q e s:=λe s h=>by
 cases e<;>first|exact h|exact h.elim
theorem aQu{e:Nat->AV}:Le e emp:=λ_=>.inl rfl
theorem bAl[Mode]{S S0:Type}{t:Nat}{f:FuncId}{bound:List AV}{ps:List Nat}{assign body:Code}{env:Nat->AV}(π:S->S0)(objs:S->List MO)(Y:S0->List AV->S0->Prop)(s0:S)(x0 x1:S0)
  (he:Ent st ⟨env,objs s0⟩)(hg:env t=.mf f bound)(hcf:∀args w,(callFunc f args).run P w=.ok (.enter f args) w)(h0:π s0=x0)
  (hps:(ps.all λp=>Nat.blt p n)=true)(hna:sH assign=true)(hnb:sH body=true)
  (hI:∀(l:Nat) (J:S0->MO->Prop),(∀x m args x',J x m->Y x args x'->aJv P l args m (J x'))->∀m0,J x0 m0->bI P f (bound++[.d (.lit (yv l))]) [m0] (λ_ o=>∃m',J x1 m'/\o=[m']))
  (hbody:∀s args x',Y (π s) args x'->args.length=ps.length/\Tr P n assign ⟨aDw env ps args,objs s⟩ (jI (λs1=>Tr P n body s1 (jI (λs2=>∃s',π s'=x'/\Ent s2 ⟨emp,objs s'⟩) (λ_ _=>False))) (λ_ _=>False)))
  (hN:∀s,π s=x1->N ⟨env,objs s⟩):Tr P n (.rangeFunc (.tmp t) ps.toArray assign body) st (jI N (λ_ _=>False)):=by
 refine bAm π objs Y s0 x0 x1 he hg hcf h0 (λp hp=>aA (List.all_eq_true.1 hps p hp)) hna hnb hI (λs args x' hy=>?_) hN;obtain⟨h1,h2⟩:=hbody s args x' hy;refine⟨h1,oU h2 λe s1 h=>?_⟩;obtain⟨he,h3⟩:=aTb e s1 h;refine⟨he,λA M w0 a w hR hn=>wpIn_mono (h3 A M w0 a w hR hn) ?_⟩;rintro e a' w' ⟨s2,hq,hR2⟩;obtain⟨he2,s',hs',hent⟩:=aTb e s2 hq;exact⟨⟨emp,objs s'⟩,⟨he2,s',hs',rfl⟩,hent A M w0 n a' w' hR2⟩
end
end Go.Am
namespace Go.Am
theorem uQ[Mode]{P:Program}{f:FuncId}{fn:Func}{c:Code}{args:List AV}{objs:List MO}{Q:AV->List MO->Prop}(hf:P.funcs[f]?=some fn)(hb:fn.body=some c){rs:List ResultVar}(hr:fn.results=rs.toArray){n:Nat}(hn:fn.ntmps=n)(ha:args.length<=n)
  (h:Tr P n c ⟨entry args,objs⟩ (jI (λst=>∃r0 objs' gone r,ResW P st rs r0/\st.objs.Perm (objs'++gone)/\BV gone r0 r/\Q r objs') (λe st=>e=.ret/\∃r0 objs' gone r,ResW P st rs r0/\st.objs.Perm (objs'++gone)/\BV gone r0 r/\Q r objs'))):bI P f args objs Q:=by
 subst hn;have key:∀e st,jI (λst=>∃r0 objs' gone r,ResW P st rs r0/\st.objs.Perm (objs'++gone)/\BV gone r0 r/\Q r objs') (λe st=>e=.ret/\∃r0 objs' gone r,ResW P st rs r0/\st.objs.Perm (objs'++gone)/\BV gone r0 r/\Q r objs') e st->(e=.ret\/e=.normal)/\∃r0 objs' gone r,ResW P st rs r0/\st.objs.Perm (objs'++gone)/\BV gone r0 r/\Q r objs':=by
  intro e st h;cases e<;>first|exact⟨.inr rfl,h⟩|exact⟨.inl h.1,h.2⟩
 intro A w vs hinv hA hvs;refine aFd hf hb ha h hinv hA hvs (λe st hq=>(key e st hq).1) ?_;intro e st a' w' hq hR';obtain⟨_,r0,objs',gone,r,hres,hp,hbv,hq⟩:=key e st hq;obtain⟨v,hrun,hv⟩:=aJk hr hres hR';have hR1:R A (dR objs) ⟨w,[],none⟩ 1 ⟨upd emp 0 r0,st.objs⟩ {tmps:= #[v],defers:=[]} w':=by
  refine⟨rfl,Marks.nil _ ⟨w,[],none⟩ _,λk=>?_,hR'.inv,hR'.keeps,hR'.own,hR'.old⟩;show VR _ _ (upd emp 0 r0 k) _
  by_cases hk:0=k
  ·subst hk;rw[fS];exact hv
  ·rw[mJ _ _ hk];exact .any _
 have hR2:=kD (env':=upd emp 0 r) hp (λk=>by
  by_cases hk:0=k
  ·subst hk;rw[fS,fS];exact hbv
  ·rw[mJ _ _ hk,mJ _ _ hk];exact .any _) A (dR objs) ⟨w,[],none⟩ 1 _ w' hR1
 have hv2:VR w' (aV A objs') (upd emp 0 r 0) v:=hR2.env 0;rw[fS] at hv2;exact⟨v,hrun,v,r,objs',rfl,hR2.keeps,hR2.inv,hv2,hR2.own,hq⟩
end Go.Am
namespace Go.Am
abbrev bOq{S A B:Type}(e1:A->AV)(e2:B->AV)(f:S->A->B->Option S):S->List AV->S->Prop:=λx args x'=>∃a b,args=[e1 a,e2 b]/\f x a b=some x'
end Go.Am
end
