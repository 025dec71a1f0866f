/- Several texts, one behind the other. -/
import Derived.Test.YtammglnfelkbpaaGreatDoorAmX18
section
namespace Go.Am
def aAk:Value:=.tuple #[]
section
variable{α β:Type}[DecidableEq α]{kv:α->Value}{av:β->AV}{l:List (α×β)}{a:α}{z:β}
def mqH[Mode](kv:α->Value)(av:β->AV)(l:List (α×β))(a:α)(z:β):Nat->Value->World->aR->Prop:=λr s w X=>
 ∃bs ck,(s=aAk/\(MO.map r (l.map λp=>(kv p.1,av p.2)) bs ck).holds w X)\/(s=.int .i64 (nY a l bs ck)/\(MO.map r ((jA a z l).map λp=>(kv p.1,av p.2)) (mbs a l bs ck) (mck a l ck)).holds w X)
def mq[Mode](kv:α->Value)(av:β->AV)(l:List (α×β))(a:α)(z:β)(r:Nat)(s:Value):MO:=.ext (λb _=>b=r) (mqH kv av l a z r s)
theorem bRe[Mode]{r:Nat}{s:Value}{w:World}{X:aR}(h:mqH kv av l a z r s w X):(mq kv av l a z r s).holds w X:=by
 refine⟨λb o hb=>?_,λw' X' hm hk=>?_⟩
 ·subst hb;obtain⟨bs,ck,⟨_,h⟩|⟨_,h⟩⟩:=h<;>exact lU (o:=0) h rfl
 ·obtain⟨bs,ck,⟨hs,h⟩|⟨hs,h⟩⟩:=h
  ·exact⟨bs,ck,.inl ⟨hs,cI h hk (λb o hf hz=>hz hf) hm⟩⟩
  ·exact⟨bs,ck,.inr ⟨hs,cI h hk (λb o hf hz=>hz hf) hm⟩⟩
theorem bCz[Mode]{P:Program}{n i r:Nat}{s:Value}{o:Oper}{st:St}{Q:St->Prop}(hm:st.objs[i]?=some (mq kv av l a z r s))
  (hA:∀bs ck,s=aAk->Step P n o ⟨st.env,st.objs.set i (.map r (l.map λp=>(kv p.1,av p.2)) bs ck)⟩ Q)
  (hB:∀bs ck,s=.int .i64 (nY a l bs ck)->Step P n o ⟨st.env,st.objs.set i (.map r ((jA a z l).map λp=>(kv p.1,av p.2)) (mbs a l bs ck) (mck a l ck))⟩ Q):Step P n o st Q:=
 λA M w0 ac w hR K R' hK=>by
  obtain⟨bs,ck,⟨hs,hh⟩|⟨hs,hh⟩⟩:=(hR.inv.holds _ (i8 hm)).2 w _ (Mono.refl _ _) (Keeps.refl _ _)
  ·refine hA bs ck hs A M w0 ac w (R.exch (objs:=st.objs) (aAq hm rfl) hR λx hx=>?_) K R' hK
   rcases aEu hx with rfl|hx
   ·exact hh
   ·exact hR.inv.holds x hx
  ·refine hB bs ck hs A M w0 ac w (R.exch (objs:=st.objs) (aAq hm rfl) hR λx hx=>?_) K R' hK
   rcases aEu hx with rfl|hx
   ·exact hh
   ·exact hR.inv.holds x hx
theorem bHu[Mode]{env:Nat->AV}{objs:List MO}{i r:Nat}{s:Value}{es:List (Value×AV)}{bs:List Nat}{ck:Nat}(hi:i<objs.length)(hq:∀w X,(MO.map r es bs ck).holds w X->mqH kv av l a z r s w X):Ent ⟨env,objs.set i (.map r es bs ck)⟩ ⟨env,objs.set i (mq kv av l a z r s)⟩:=
 λA M w0 n ac w hR=>by
  have e:objs.set i (mq kv av l a z r s)=(objs.set i (.map r es bs ck)).set i (mq kv av l a z r s):=by simp
  have hm:(objs.set i (.map r es bs ck))[i]?=some (.map r es bs ck):=by simp[hi]
  rw[e];refine R.exch (aAq hm rfl) hR λx hx=>?_
  rcases aEu hx with rfl|hx
  ·exact bRe (hq _ _ (hR.inv.holds _ (i8 hm)))
  ·exact hR.inv.holds x hx
end
def nsD(h:Nat):D->Bool
 | .hv q k _=>match q with
  |0=>!(Nat.beq k h)
  |_=>true
 |_=>true
def ns0(h:Nat):AV->Bool
 | .d x=>nsD h x
 | .agg xs=>xs.all (nsD h)
 | .ep v _ _ _=>match v with
  | .map (some k)=>!(Nat.beq k h)
  |_=>true
 |_=>true
def ns1(h:Nat):AV->Bool
 | .tup vs=>vs.all (ns0 h)
 | .fn _ vs=>vs.all (ns0 h)
 | .mf _ vs=>vs.all (ns0 h)
 |x=>ns0 h x
def nsA(h:Nat):AV->Bool
 | .tup vs=>vs.all (ns1 h)
 | .fn _ vs=>vs.all (ns1 h)
 | .mf _ vs=>vs.all (ns1 h)
 |x=>ns0 h x
def nsO(h:Nat)(p:Nat×VO):Bool:=match p.2 with
 | .box ds=>ds.all (nsD h)
 | .arr .. =>!(Nat.beq p.1 h)
 | .gen _=>!(Nat.beq p.1 h)
 |_=>true
theorem tA{α β:Type}{f g:α->β}{p:α->Bool}(hp:∀x,p x=true->f x=g x):∀{l:List α},l.all p=true->l.map f=l.map g
 |[],_=>rfl
 | x::l,h=>by
  simp only[aA9,f4] at h;simp only[j3,hp x h.1,tA hp h.2]
section
variable{h:Nat}{ρ:Rho}{v:Value}
theorem bFz{k:Nat}(hk:Nat.beq k h=false):(ρ.setS h v).ss k=ρ.ss k:=by simp[Rho.ss,Rho.setS,hk]
theorem bRg{b:Bool}(h:(!b)=true):b=false:=by simpa using h
theorem bRp{x:D}(hx:nsD h x=true):(ρ.setS h v).dd x=ρ.dd x:=by
 cases x with
 | hv q k j=>
  match q,hx with
  |0,hx=>simp only[Rho.dd,bFz (bRg hx)]
  |1,_=>rfl
  |q+2,_=>rfl
 |_=>rfl
theorem aOx{x:AV}(hx:ns0 h x=true):(ρ.setS h v).a0 x=ρ.a0 x:=by
 cases x with
 |d x=>simp only[Rho.a0,bRp (show nsD h x=true from hx)]
 |agg xs=>simp only[Rho.a0,tA (λx=>bRp (x:=x)) hx]
 | ep u k i c=>
  cases u with
  | map r=>cases r with
   |none=>rfl
   |some k=>simp only[Rho.a0,bFz (bRg hx)]
  |_=>rfl
 |_=>rfl
theorem cBs{x:AV}(hx:ns1 h x=true):(ρ.setS h v).a1 x=ρ.a1 x:=by
 cases x with
 |tup vs=>simp only[Rho.a1,tA (λx=>aOx (x:=x)) hx]
 |fn f vs=>simp only[Rho.a1,tA (λx=>aOx (x:=x)) hx]
 |mf f vs=>simp only[Rho.a1,tA (λx=>aOx (x:=x)) hx]
 |any=>rfl
 |d x=>exact aOx (x:=.d x) hx
 |agg x=>exact aOx (x:=.agg x) hx
 |cp x=>rfl
 |bp b o j=>rfl
 |ep v k i c=>exact aOx (x:=.ep v k i c) hx
 |fl n k r=>rfl
theorem cLb{x:AV}(hx:nsA h x=true):(ρ.setS h v).av x=ρ.av x:=by
 cases x with
 |tup vs=>simp only[Rho.av,tA (λx=>cBs (x:=x)) hx]
 |fn f vs=>simp only[Rho.av,tA (λx=>cBs (x:=x)) hx]
 |mf f vs=>simp only[Rho.av,tA (λx=>cBs (x:=x)) hx]
 |any=>rfl
 |d x=>exact aOx (x:=.d x) hx
 |agg x=>exact aOx (x:=.agg x) hx
 |cp x=>rfl
 |bp b o j=>rfl
 |ep v k i c=>exact aOx (x:=.ep v k i c) hx
 |fl n k r=>rfl
theorem cLc{p:Nat×VO}(hx:nsO h p=true):(ρ.setS h v).mo p.1 p.2=ρ.mo p.1 p.2:=by
 obtain⟨k,m⟩:=p;cases m with
 |box ds=>simp only[nsO] at hx;simp only[Rho.mo,tA (λx=>bRp (x:=x)) hx];rfl
 |arr e k rows=>simp only[Rho.mo,bFz (bRg hx)]
 |map agg es=>rfl
 |raw m=>rfl
 |gen H=>simp only[Rho.mo,bFz (bRg hx)];rfl
theorem cKk{w:World}{X:aR}{x:D}{u:Value}(hj:ρ.ss h=aAk)(hx:DR w X (ρ.dd x) u):nsD h x=true:=by
 cases x with
 | hv q k j=>
  match q,hx with
  | 0,hx=>
   cases hb:Nat.beq k h with
   |false=>simp[nsD,hb]
   | true=>
    have:=f7 hb;subst this;simp only[Rho.dd,hj] at hx;cases hx with|lit _ h1=>cases h1
  |1,_=>rfl
  |q+2,_=>rfl
 |_=>rfl
theorem cAu{w:World}{X:aR}(hj:ρ.ss h=aAk):∀{xs:List D} {us:List Value},DRs w X (xs.map ρ.dd) us->xs.all (nsD h)=true
 |[],_,_=>rfl
 |x::xs,u::us,hx=>by simp only[aA9,cKk hj hx.1,cAu hj hx.2,Bool.and_self]
 |_::_,[],hx=>hx.elim
theorem aOg{w:World}{X:aR}{x:AV}{u:Value}(hj:ρ.ss h=aAk)(hx:VR w X (ρ.a0 x) u):ns0 h x=true:=by
 cases x with
 |d x=>cases hx with|d hx=>exact cKk hj hx
 |agg xs=>cases hx with|agg hx=>exact cAu hj hx
 | ep v k i c=>
  cases v with
  | map r=>cases r with
   |none=>rfl
   | some k=>
    cases hb:Nat.beq k h with
    |false=>simp[ns0,hb]
    | true=>
     have:=f7 hb;subst this;simp only[Rho.a0,hj,aAk] at hx;cases hx
  |_=>rfl
 |_=>rfl
theorem aMj{w:World}{X:aR}{f:AV->AV}{p:AV->Bool}{vs:List AV}{us:List Value}(hp:∀x u,VR w X (f x) u->p x=true)(hv:∀i,i<(vs.map f).length->VR w X ((vs.map f).getD i .any) (us.getD i undef)):vs.all p=true:=by
 refine k6.2 λx hx=>?_;obtain⟨i,hi,rfl⟩:=n6 hx;have:=hv i (by simpa using hi);simp only[List.getD,p8,g9 hi,aE2,u7] at this;exact hp _ _ this
theorem cAt{w:World}{X:aR}{x:AV}{u:Value}(hj:ρ.ss h=aAk)(hx:VR w X (ρ.a1 x) u):ns1 h x=true:=by
 cases x with
 |tup vs=>cases hx with|tup hl hv=>exact aMj (λ_ _=>aOg hj) hv
 |fn f vs=>cases hx with|fn hl hv=>exact aMj (λ_ _=>aOg hj) hv
 |mf f vs=>cases hx with|mf hl hv=>exact aMj (λ_ _=>aOg hj) hv
 |any=>rfl
 |d x=>exact aOg (x:=.d x) hj hx
 |agg x=>exact aOg (x:=.agg x) hj hx
 |cp x=>rfl
 |bp b o j=>rfl
 |ep v k i c=>exact aOg (x:=.ep v k i c) hj hx
 |fl n k r=>rfl
theorem cOk{w:World}{X:aR}{x:AV}{u:Value}(hj:ρ.ss h=aAk)(hx:VR w X (ρ.av x) u):nsA h x=true:=by
 cases x with
 |tup vs=>cases hx with|tup hl hv=>exact aMj (λ_ _=>cAt hj) hv
 |fn f vs=>cases hx with|fn hl hv=>exact aMj (λ_ _=>cAt hj) hv
 |mf f vs=>cases hx with|mf hl hv=>exact aMj (λ_ _=>cAt hj) hv
 |any=>rfl
 |d x=>exact aOg (x:=.d x) hj hx
 |agg x=>exact aOg (x:=.agg x) hj hx
 |cp x=>rfl
 |bp b o j=>rfl
 |ep v k i c=>exact aOg (x:=.ep v k i c) hj hx
 |fl n k r=>rfl
theorem cOl[Mode]{w:World}{X:aR}{p:Nat×VO}(hj:ρ.ss h=aAk)(hx:(ρ.mo p.1 p.2).holds w X)(hg:∀H,p.2=.gen H->Nat.beq p.1 h=false):nsO h p=true:=by
 obtain⟨k,m⟩:=p;cases m with
 |box ds=>obtain⟨vs,hd,_⟩:=hx;exact cAu hj hd
 | arr e q rows=>
  cases hb:Nat.beq k h with
  |false=>simp[nsO,hb]
  | true=>
   have:=f7 hb;subst this;obtain⟨xs,_,ho,_⟩:=hx;rw[hj] at ho
   rcases ho.2 with⟨h1,_⟩|⟨_,_,_,h1,_⟩<;>cases h1
 |map agg es=>rfl
 |raw m=>rfl
 |gen H=>simp[nsO,hg H rfl]
end
theorem cEg{h k:Nat}:∀{env:List (Nat×AV)},env.all (λp=>nsA h p.2)=true->nsA h (lk env k)=true
 |[],_=>rfl
 | p::l,hl=>by
  simp only[aA9,f4] at hl;simp only[lk];cases Nat.beq p.1 k with
  |true=>exact hl.1
  |false=>exact cEg hl.2
section
variable{P:Program}{n d:Nat}{S:VS}{us:List Nat}{op:Op}{ty:TypeId}{pos:String}{af:Array Edge}{gd:Option (Nat×Bool)}{K:Eff->Prop}{t kt et:TypeId}{α β:Type}[DecidableEq α]{kv:α->Value}{enc:β->List D}{agg:Bool}{l:List (α×β)}{z v:β}{zv:Value}{a:α}{x y q:Operand}{h:Nat}
theorem omq[Mode]{β':lS}{Kv:VS->Prop}(kv:α->Value)(enc:β->List D)(agg:Bool)(l:List (α×β))(a:α)(z:β)(k:bJr h (.gen (mqH kv (λv=>eA agg (enc v)) l a z)) S.objs λobjs=>Kv ⟨S.env,objs⟩)
  (hm:ob S.objs h=some (.map agg (l.map λp=>(kv p.1,enc p.2))):=by exact rfl)(hn:(!(Nat.ble 100000 h)&&(S.env.all (λp=>nsA h p.2)&&S.objs.all (nsO h)))=true:=by exact rfl):OMq β' h S Kv:=by
 simp only[f4,l6] at hn;obtain⟨hl,h1,h2⟩:=hn;refine⟨_,λρ hρ=>⟨ρ.setS h aAk,hρ,?_⟩,bJs (K:=λobjs=>Kv ⟨S.env,objs⟩) k⟩;obtain⟨i,g1,g2,_⟩:=oM (ρ:=ρ.setS h aAk) hm;have e1:(S.objs.map λp=>(ρ.setS h aAk).mo p.1 p.2)=S.objs.map λp=>ρ.mo p.1 p.2:=tA (λp=>cLc (p:=p)) h2;have e2:(λk=>(ρ.setS h aAk).av (lk S.env k))=λk=>ρ.av (lk S.env k):=funext λk=>by
  exact cLb (cEg h1)
 have hi:i<(S.objs.map λp=>ρ.mo p.1 p.2).length:=by rw[<-e1];exact(g7.1 g1).1
 rw[e1] at g1 g2;unfold VS.at;simp only;rw[e2,<-g2];have hs:=aEt (ρ:=ρ) hl aAk;intro A M w0 n' ac w hR;refine R.exch (aAq g1 rfl) hR λm hm'=>?_
 rcases aEu hm' with rfl|hm'
 ·obtain⟨_,bs,ck,hh⟩:=bRf (hR.inv.holds _ (i8 g1));rw[aEc] at hh;exact bRe ⟨bs,ck,.inl ⟨hs,hh⟩⟩
 ·exact hR.inv.holds m hm'
theorem bIw[Mode]{S':VS}{ρ:Rho}{i:Nat}{v:AV}{d:Nat}{m:MO}(h1:(S'.at ρ).objs[i]?=some m):(St.mk (upd (S'.at ρ).env d (ρ.av v)) ((S'.at ρ).objs.set i m))=(VS.mk ((d,v)::S'.env) S'.objs).at ρ:=by
 rw[aXe h1];exact at_set (ρ:=ρ) S' d v
theorem cOr[Mode](hk:kU P kt kv)(ht:P.underlying t=some (.map kt et))(hz:∀w,(zeroValue et).run P w=.ok zv w)(hzv:∀w X,VR w X (eA agg (enc z)) zv){yv:AV}(hy:qD kv yv a)(k:K (.r (eA agg (enc (bW a z l))) [h]))
  (hx:S.ev x=.d (.hv 1 h 0):=by exact rfl)(hm:ob S.objs h=some (.gen (mqH kv (λv=>eA agg (enc v)) l a z)):=by exact rfl)(hok:(Nat.ble (d+1) n&&(cD y&&okA yv))=true:=by exact rfl)(hyv:S.ev y=yv:=by exact rfl)(hav:∀v,okA (eA agg (enc v))=true:=by exactλ_=>rfl):
  bY P n ⟨some d,.lookup t x y false,ty,pos,af,gd⟩ S K:=by
 simp only[f4] at hok;refine⟨⟨_,k,λS' hA _ ρ=>?_⟩⟩;obtain⟨i,h1,h2,_⟩:=oM (ρ:=ρ) ((hA.ob h (by simp)).trans hm);have h1:(S'.at ρ).objs[i]?=some (mq kv (λv=>eA agg (enc v)) l a z (ρ.bb h) (ρ.ss h)):=h1;have hi:=(g7.1 h1).1;have hyy:∀st:St,st.env=(S'.at ρ).env->st.eval y=yv:=λst he=>by rw[evE he hA (by simp[Op.operands]) hyv,qB ρ hok.2.2]
 have hxx:∀st:St,st.env=(S'.at ρ).env->st.eval x=.d (.lit (.map (some (ρ.bb h)))):=λst he=>evE he hA (by simp[Op.operands]) hx;refine bCz h1 (λbs ck hs=>?_) λbs ck hs=>?_
 ·refine cM (aSx (av:=λv=>eA agg (enc v)) (m:=i) (bs:=bs) (clock:=ck) (bs':=[]) (clock':=0) (f5 hok.1) hk ht hz hzv (hxx _ rfl) (.inl (aA1 hi)) hok.2.1 (hyy _ rfl) hy) ?_;rintro s rfl;refine⟨ρ,rfl,?_⟩;refine(bHu (kv:=kv) (av:=λv=>eA agg (enc v)) (l:=l) (a:=a) (z:=z) hi λw X hh=>⟨bs,ck,.inl ⟨hs,hh⟩⟩).trans (gA ?_);have:=bIw (v:=eA agg (enc (bW a z l))) (d:=d) h1;rw[qB ρ (hav _)] at this;exact this
 ·refine cM (aSx (av:=λv=>eA agg (enc v)) (m:=i) (bs:=[]) (clock:=0) (bs':=mbs a l bs ck) (clock':=mck a l ck) (f5 hok.1) hk ht hz hzv (hxx _ rfl) (.inr (aA1 hi)) hok.2.1 (hyy _ rfl) hy) ?_;rintro s rfl;refine⟨ρ,rfl,?_⟩;refine(bHu (kv:=kv) (av:=λv=>eA agg (enc v)) (l:=l) (a:=a) (z:=z) hi λw X hh=>⟨bs,ck,.inr ⟨hs,hh⟩⟩).trans (gA ?_);have:=bIw (v:=eA agg (enc (bW a z l))) (d:=d) h1;rw[qB ρ (hav _)] at this;exact this
end
theorem bWf{h:Nat}{m:VO}:∀{objs:List (Nat×VO)},ob objs h=some m->∃i:Nat,objs[i]?=some (h,m)
 |[],hm=>by cases hm
 | (k,x)::l,hm=>by
  simp only[ob] at hm;cases hb:Nat.beq k h with
  | true=>
   rw[hb] at hm;have:=f7 hb;subst this
   simp at hm;subst hm
   exact⟨0,rfl⟩
  | false=>
   rw[hb] at hm;obtain⟨i,hi⟩:=bWf (objs:=l) (by simpa using hm);exact⟨i+1,hi⟩
section
variable{α β:Type}[DecidableEq α]{kv:α->Value}{av:β->AV}{l:List (α×β)}{a:α}{z:β}{bs:List Nat}{ck:Nat}
theorem bMh(hl:bs.length=l.length)(ck':Nat):nY a (jA a z l) (mbs a l bs ck) ck'=nY a l bs ck:=by
 obtain⟨j,hj,hb⟩:=aSd a z l bs ck hl;show(match eT a ((jA a z l).map (·.1)) with|some j=>(mbs a l bs ck).getD j 0|none=>ck')=_;rw[hj]
 simp[List.getD,hb]
theorem aSe:cR a (jA a z l)=true:=by
 obtain⟨j,hj,_⟩:=aSd a z l (List.replicate l.length 0) 0 (by simp);rw[nM,hj];rfl
theorem bWb:jA a z (jA a z l)=jA a z l:=by
 show(bif cR a (jA a z l) then jA a z l else _)=_;rw[aSe];rfl
theorem cBg{bs':List Nat}{ck':Nat}:mbs a (jA a z l) bs' ck'=bs':=by simp[mbs,aSe]
theorem cBh{ck':Nat}:mck a (jA a z l) ck'=ck':=by simp[mck,aSe]
theorem cBi[Mode]{w:World}{X:aR}{r ck':Nat}(h:(MO.map r ((jA a z l).map λp=>(kv p.1,av p.2)) (mbs a l bs ck) ck').holds w X):bs.length=l.length:=by
 obtain⟨ms,hh,hms,hb1,_⟩:=h;have h1:(mbs a l bs ck).length=(jA a z l).length:=by
  rw[<-hb1];have:=aA5 List.length hms.keys
  simpa using this
 cases h:cR a l<;>simpa[mbs,jA,h] using h1
theorem cKl[Mode]{S':VS}{ρ:Rho}{h i d:Nat}{v:AV}{x:AV}{u:Value}{es:List (Value×AV)}{bs':List Nat}{ck':Nat}(hj:ρ.ss h=aAk)(hl:Nat.ble 100000 h=false)(hi:S'.objs[i]?=some (h,.gen (mqH kv av l a z)))
  (hx:x=(ρ.setS h u).av v)(hq:∀w X,(MO.map (ρ.bb h) es bs' ck').holds w X->mqH kv av l a z (ρ.bb h) u w X):
  Ent ⟨upd (S'.at ρ).env d x,(S'.at ρ).objs.set i (.map (ρ.bb h) es bs' ck')⟩ ((VS.mk ((d,v)::S'.env) S'.objs).at (ρ.setS h u)):=by
 intro A M w0 n ac w hR;have hil:i<S'.objs.length:=(g7.1 hi).1;have henv:(λk=>(ρ.setS h u).av (lk ((d,v)::S'.env) k))=upd (S'.at ρ).env d x:=by
  funext k
  simp only[lk];cases hb:Nat.beq d k with
  | true=>
   have:=f7 hb;subst this;rw[fD];exact hx.symm
  | false=>
   have hne:d≠k:=λe=>by subst e;simp at hb
   have hv:=hR.env k;simp only at hv;rw[lC _ _ hne] at hv|-;exact cLb (cOk hj hv)
 have hobj:(S'.objs.map λp=>(ρ.setS h u).mo p.1 p.2)=(S'.at ρ).objs.set i (mq kv av l a z (ρ.bb h) u):=by
  refine List.ext_getElem (by simp[VS.at]) λj h1 h2=>?_;have hjl:j<S'.objs.length:=by simpa using h1
  by_cases hji:i=j
  ·subst hji;have e:S'.objs[i]=(h,.gen (mqH kv av l a z)):=(g7.1 hi).2;simp only[List.getElem_map,List.getElem_set_self,e,Rho.mo,aEt hl]
   rfl
  ·rw[List.getElem_set_ne hji];simp only[VS.at,List.getElem_map];have hlen:(((S'.at ρ).objs.set i (.map (ρ.bb h) es bs' ck'))).length=S'.objs.length:=by simp[VS.at]
   have ej:((S'.at ρ).objs.set i (.map (ρ.bb h) es bs' ck'))[j]'(by rw[hlen];exact hjl)=ρ.mo S'.objs[j].1 S'.objs[j].2:=by
    rw[List.getElem_set_ne hji];simp[VS.at]
   have hmem:ρ.mo S'.objs[j].1 S'.objs[j].2∈(S'.at ρ).objs.set i (.map (ρ.bb h) es bs' ck'):=ej▸j9 _;refine cLc (cOl hj (hR.inv.holds _ hmem) λH hH=>?_);cases hb:Nat.beq S'.objs[j].1 h with
   |false=>rfl
   | true=>
    exfalso
    have hk:=f7 hb;have hsep:=u0.1 hR.inv.sep;have ei:((S'.at ρ).objs.set i (.map (ρ.bb h) es bs' ck'))[i]'(by rw[hlen];exact hil)=.map (ρ.bb h) es bs' ck':=by simp
    have fj:(ρ.mo S'.objs[j].1 S'.objs[j].2).foot (ρ.bb h) 0:=by rw[hH,hk];rfl
    rcases Nat.lt_or_gt_of_ne hji with hlt|hlt
    ·exact hsep i j (by rw[hlen];exact hil) (by rw[hlen];exact hjl) hlt (ρ.bb h) 0 (by rw[ei];rfl) (by rw[ej];exact fj)
    ·exact hsep j i (by rw[hlen];exact hjl) (by rw[hlen];exact hil) hlt (ρ.bb h) 0 (by rw[ej];exact fj) (by rw[ei];rfl)
 have hil':i<(S'.at ρ).objs.length:=by simpa[VS.at] using hil
 have hm:((S'.at ρ).objs.set i (.map (ρ.bb h) es bs' ck'))[i]?=some (.map (ρ.bb h) es bs' ck'):=aA1 hil';have e2:(S'.at ρ).objs.set i (mq kv av l a z (ρ.bb h) u)=((S'.at ρ).objs.set i (.map (ρ.bb h) es bs' ck')).set i (mq kv av l a z (ρ.bb h) u):=by simp
 unfold VS.at;simp only;rw[henv,hobj,e2];refine R.exch (aAq hm rfl) hR λm hm'=>?_
 rcases aEu hm' with rfl|hm'
 ·exact bRe (hq _ _ (hR.inv.holds _ (i8 hm)))
 ·exact hR.inv.holds m hm'
end
section
variable{P:Program}{n d:Nat}{S:VS}{us:List Nat}{op:Op}{ty:TypeId}{pos:String}{af:Array Edge}{gd:Option (Nat×Bool)}{K:Eff->Prop}{t kt et:TypeId}{α β:Type}[DecidableEq α]{kv:α->Value}{enc:β->List D}{agg:Bool}{l:List (α×β)}{z v:β}{zv:Value}{a:α}{x y q:Operand}{h:Nat}
theorem cOt[Mode](hk:kU P kt kv)(ht:P.underlying t=some (.map kt et))(hz:∀w,(zeroValue et).run P w=.ok zv w)(hzv:∀w X,VR w X (eA agg (enc z)) zv){yv:AV}(hy:qD kv yv a)(k:K ⟨.tup [eA agg (enc (bW a z l)),.d (.hv 0 h 0)],[],[h],[]⟩)
  (hx:S.ev x=.d (.hv 1 h 0):=by exact rfl)(hm:ob S.objs h=some (.gen (mqH kv (λv=>eA agg (enc v)) l a z)):=by exact rfl)(hok:((Nat.ble (d+1) n&&!(Nat.ble 100000 h))&&(cD y&&okA yv))=true:=by exact rfl)(hyv:S.ev y=yv:=by exact rfl)(hav:∀v,ok1 (eA agg (enc v))=true:=by exactλ_=>rfl):
  bY P n ⟨some d,.mapEntry t x y,ty,pos,af,gd⟩ S K:=by
 simp only[f4,l6] at hok;refine⟨⟨_,k,λS' hA _ ρ=>?_⟩⟩;obtain⟨i,hi0⟩:=bWf ((hA.ob h (by simp)).trans hm);have h1:(S'.at ρ).objs[i]?=some (mq kv (λv=>eA agg (enc v)) l a z (ρ.bb h) (ρ.ss h)):=by simp only[VS.at,p8,hi0];rfl
 have hi:=(g7.1 h1).1;have hyy:∀st:St,st.env=(S'.at ρ).env->st.eval y=yv:=λst he=>by rw[evE he hA (by simp[Op.operands]) hyv,qB ρ hok.2.2]
 have hxx:∀st:St,st.env=(S'.at ρ).env->st.eval x=.d (.lit (.map (some (ρ.bb h)))):=λst he=>evE he hA (by simp[Op.operands]) hx;refine bCz h1 (λbs ck hs=>?_) λbs ck hs=>?_
 ·refine cM (aPp (av:=λv=>eA agg (enc v)) (m:=i) (bs:=bs) (clock:=ck) (z:=z) (f5 hok.1.1) hk ht hz hzv (hxx _ rfl) (aA1 hi) hok.2.1 (hyy _ rfl) hy) ?_;rintro s rfl;refine⟨ρ.setS h (.int .i64 (nY a l bs ck)),rfl,?_⟩;simp only[aH2];refine cKl hs hok.1.2 hi0 ?_ λw X hh=>⟨bs,ck,.inr ⟨rfl,hh⟩⟩;show _=AV.tup [_,_];rw[aJg _ (hav _)];simp only[Rho.a1,Rho.a0,Rho.dd,aEt hok.1.2]
 ·refine aXg (m:=.map (ρ.bb h) ((jA a z l).map λp=>(kv p.1,eA agg (enc p.2))) (mbs a l bs ck) (mck a l ck)) (i:=i) (aA1 hi) λ⟨w,X,hh⟩=>?_;have hlen:=cBi (kv:=kv) (av:=λv=>eA agg (enc v)) (z:=z) hh;refine cM (aPp (av:=λv=>eA agg (enc v)) (m:=i) (bs:=mbs a l bs ck) (clock:=mck a l ck) (l:=jA a z l) (z:=z) (f5 hok.1.1) hk ht hz hzv (hxx _ rfl) (aA1 hi) hok.2.1 (hyy _ rfl) hy) ?_;rintro s rfl;refine⟨ρ,rfl,?_⟩;simp only[aH2,bWb,cBg,cBh,bEm,bMh hlen];refine(bHu (kv:=kv) (av:=λv=>eA agg (enc v)) (l:=l) (a:=a) (z:=z) hi λw X hh=>⟨bs,ck,.inr ⟨hs,hh⟩⟩).trans (gA ?_);have:=bIw (v:=.tup [eA agg (enc (bW a z l)),.d (.hv 0 h 0)]) (d:=d) h1;have e:ρ.av (.tup [eA agg (enc (bW a z l)),.d (.hv 0 h 0)])=.tup [eA agg (enc (bW a z l)),.d (.lit (.int .i64 (nY a l bs ck)))]:=by
   show AV.tup [_,_]=_;rw[aJg _ (hav _)];simp only[Rho.a1,Rho.a0,Rho.dd,hs]
  rw[e] at this;exact this
theorem cOo[Mode](k:K ⟨.any,[(h,some (.map agg ((dE a v l).map λp=>(kv p.1,enc p.2))))],[h],[]⟩)
  (hx:S.ev x=.d (.hv 1 h 0):=by exact rfl)(hm:ob S.objs h=some (.gen (mqH kv (λv=>eA agg (enc v)) l a z)):=by exact rfl)(hv:S.ev y=eA agg (enc v):=by exact rfl)(hq:S.ev q=.d (.hv 0 h 0):=by exact rfl)(hok:(cD y&&cD q)=true:=by exact rfl)(hav:∀v,okA (eA agg (enc v))=true:=by exactλ_=>rfl)(hl:agg=true\/∀v,(enc v).length=1:=by first|exact .inl rfl|exact .inr λ_=>rfl):
  bY P n ⟨none,.entryStore t x q y,ty,pos,af,gd⟩ S K:=by
 simp only[f4] at hok;refine⟨⟨_,k,λS' hA _ ρ=>?_⟩⟩;obtain⟨i,h1,h2,_⟩:=oM (ρ:=ρ) ((hA.ob h (by simp)).trans hm);have h1:(S'.at ρ).objs[i]?=some (mq kv (λv=>eA agg (enc v)) l a z (ρ.bb h) (ρ.ss h)):=h1;have hi:=(g7.1 h1).1;have hqq:∀st:St,st.env=(S'.at ρ).env->st.eval q=.d (.lit (ρ.ss h)):=λst he=>evE he hA (by simp[Op.operands]) hq;have hxx:∀st:St,st.env=(S'.at ρ).env->st.eval x=.d (.lit (.map (some (ρ.bb h)))):=λst he=>evE he hA (by simp[Op.operands]) hx;refine bCz h1 (λbs ck hs A M w0 ac w hR=>?_) λbs ck hs=>?_
 ·have hv:=hR.eval' hok.2;have e:=hqq ⟨(S'.at ρ).env,(S'.at ρ).objs.set i (MO.map (ρ.bb h) (l.map λp=>(kv p.1,eA agg (enc p.2))) bs ck)⟩ rfl;rw[e,hs] at hv
  generalize ac.eval q=u at hv
  cases hv with|d hv=>cases hv with|lit _ h1=>cases h1
 ·have hyy:∀st:St,st.env=(S'.at ρ).env->st.eval y=eA agg (enc v):=λst he=>by rw[evE he hA (by simp[Op.operands]) hv,qB ρ (hav _)]
  refine cM (aQl (av:=λv=>eA agg (enc v)) (z:=z) (v:=v) (a:=a) (m:=i) (bs:=bs) (clock:=ck) (clock':=mck a l ck) (hxx _ rfl) (aA1 hi) ((hqq _ rfl).trans (by rw[hs])) hok.1 (hyy _ rfl)) ?_;rintro s rfl;refine⟨ρ,rfl,?_⟩;simp only[aH2];have h0:agg=false->∀e∈(dE a v l).map λp=>(kv p.1,enc p.2),e.2.length=1:=by
   intro hf e hme;obtain⟨p,_,rfl⟩:=l5.1 hme
   rcases hl with hl|hl
   ·rw[hf] at hl;cases hl
   ·exact hl _
  have:=aMg (env:=(S'.at ρ).env) (objs:=(S'.at ρ).objs) (r:=ρ.bb h) (bs:=mbs a l bs ck) (ck:=mck a l ck) hi h0;rw[aEc] at this;refine this.trans (gA ?_);exact aA5 (St.mk _) (h2 (.map agg ((dE a v l).map λp:α×β=>(kv p.1,enc p.2))))
end
end Go.Am
end
section
section
namespace Go.Am
section
variable{P:Program}{n d:Nat}{S:VS}{ty:TypeId}{pos:String}{af:Array Edge}{gd:Option (Nat×Bool)}{c:Callee}{l:List Operand}{ts:Array TypeId}{f:FuncId}{ars:List AV}
theorem cgl[Mode]{β:lS}{Kv:VS->Prop}{α:Type}{Rx:α->Prop}{enc:α->AV}{args':List AV}(he:∀args w,(callFunc f args).run P w=.ok (.enter f args) w)
  (hf:aX P f args' [] (λr' o'=>∃x,Rx x/\r'=enc x/\o'=[]))(k:∀x,Rx x->Kv ⟨(d,enc x)::S.env,S.objs⟩)
  (hl:∀x,aKn (enc x)=true:=by exactλ_=>rfl)(hla:∀(ρ:Rho) x,ρ.av (enc x)=enc x:=by exactλ_ _=>rfl)(hc:lE S l c=some (f,ars):=by exact rfl)(hv:nlL (ars.map (vA S.objs)) args'=args':=by exact rfl)(hok:(Nat.ble (d+1) n&&(fU l&&args'.all okA))=true:=by exact rfl):
  aDz P n β ⟨some d,.call ⟨c,l.toArray,ts⟩,ty,pos,af,gd⟩ S Kv:=by
 intro ρ hρ;simp only[f4] at hok;refine bDa λhro=>?_;obtain⟨a0,h1,h2⟩:=aFm (S:=S) (S':=S) (us:=[]) (ts:=ts) ⟨λ_ _=>rfl,λ_ hh=>by cases hh⟩ hc he ρ;have hb:BVs (S.at ρ).objs (ars.map ρ.av) args':=by
  have hro':qW (S.objs.map λp=>ρ.mo p.1 p.2):=hro;have hok2:=hok.2.2;rw[<-hv] at hok2|-;exact aMq (λx hx ha=>aHx ρ hro' rfl ha) hok2
 refine cM (cHo (f5 hok.1) h1 h2 hok.2.1 hb hf ?_) ?_
 ·rintro r o ⟨x,_,rfl,_⟩;exact hl x
 ·rintro s ⟨r,o,⟨x,hx,rfl,_⟩,rfl⟩;refine⟨_,ρ,hρ,k x hx,gA ?_⟩;have:=at_set (ρ:=ρ) S d (enc x)
  rwa[hla ρ x] at this
theorem cgm[Mode]{β:lS}{Kv:VS->Prop}{α:Type}{Rx:α->Prop}(ins:List (Nat×VO))(r:α->AV)(cs:α->List (Option VO)){args':Rho->List AV}{objs':Rho->List MO}(he:∀args w,(callFunc f args).run P w=.ok (.enter f args) w)
  (hf:bFv f P Rx ins [] r cs (λ_=>[]) args' objs')(k:∀x,Rx x->rT (some d) ⟨r x,chL ins (cs x) [],ins.map (·.1),[]⟩ S Kv)
  (hc:lE S l c=some (f,ars):=by exact rfl)(hin:(ins.map λp=>ob S.objs p.1)=ins.map (λp=>some p.2):=by exact rfl)
  (hok:(Nat.ble (d+1) n&&(fU l&&xQ (ins.map (·.1))))=true:=by exact rfl)(hcs:∀x,(cs x).length=ins.length:=by exactλ_=>rfl)
  (ha:∀ρ:Rho,BVs [] (ars.map ρ.av) (args' ρ):=by exactλ_=>BVs.refl _ _)(ho:∀ρ:Rho,objs' ρ=ins.map (λp=>ρ.mo p.1 p.2):=by intro _;kernel_rfl):
  aDz P n β ⟨some d,.call ⟨c,l.toArray,ts⟩,ty,pos,af,gd⟩ S Kv:=by
 intro ρ hρ;simp only[f4] at hok;refine cM (aTj (us:=ins.map (·.1)) (nw:=[]) (news:=λ_=>[]) he hf ⟨λ_ _=>rfl,λ_ _=>rfl⟩ (λh hh=>by cases hh) hc hin (by simp[hok.1,hok.2.1,hok.2.2,xQ]) (λ_=>rfl) hcs ha ho ρ) ?_;rintro s ⟨x,hx,ρ',hβ,hE⟩;exact⟨_,ρ',hβ.trans hρ,aXw (k x hx),hE⟩
end
theorem cAk{α β:Type}{p:Int}{g:α->Option β}{r:β}{q:Prop}(h:(idx ([]:List α) p).bind g=some r):q:=by
 obtain⟨x,hx,_⟩:=bind_some h;obtain⟨_,h1,_⟩:=aIz hx
 simp at h1
theorem bUa{α:Type}{x:Option α}{r:α}(h:x=some r):(some ()).bind (λ_=>x)=some r:=h
end Go.Am
end
section
namespace Go.Am
class KC [Mode] (P:Program) {R:Type} (x:Option R) (f:outParam FuncId) (args:outParam (List AV)) (enc:outParam (R->AV)):Prop where
 e:∀args w,(callFunc f args).run P w=.ok (.enter f args) w
 h:∀r,x=some r->Fn P f args (enc r)
theorem KC.o[Mode]{P:Program}{R:Type}{x:Option R}{f:FuncId}{args args':List AV}{enc:R->AV}{r:R}{r':AV}[kc:KC P x f args enc](h:x=some r)(ha:args'=args:=by exact rfl)(hr:r'=enc r:=by exact rfl):Fn P f args' r':=by
 subst ha;subst hr;exact kc.h r h
section
variable{α γ:Type}{r:γ}{x y:Option γ}{g:α->Option γ}{f:α->List D}{xs ys:List α}
theorem wbr{c:Bool}{K:Bool->Prop}(h:(bif c then x else y)=some r)(ht:True->c=true->x=some r->K true)(hf:True->c=false->y=some r->K false):OB c K:=by
 cases c with
 |true=>exact⟨ht ⟨⟩ rfl h⟩
 |false=>exact⟨hf ⟨⟩ rfl h⟩
theorem wjg{S:VS}{m t:Nat}{ds:List Nat}{A:(VS->Prop)->Prop}{B:VS->Prop}{X:Option Bool}{g:Bool->Option γ}(h:X.bind g=some r)(ha:∀x,True->X=some x->A (GN S m t ds x))(hb:∀x,True->g x=some r->B ⟨(t,.b x)::qX ds S.env,S.objs⟩):JG S m t ds A B:=jg h (ha · ⟨⟩) (hb · ⟨⟩)
theorem wjo{S:VS}{m t:Nat}{ds:List Nat}{A:(VS->Prop)->Prop}{B:VS->Prop}{X:Option Bool}{c:Bool}{g:Bool->Option γ}(h:X.bind g=some r)(ha:∀x,True->X=some x->A (GN S m t ds x))(hb:∀x,True->g x=some r->B ⟨(t,.b x)::qX ds S.env,S.objs⟩)(hc:c=true:=by kernel_rfl):JO c S m t ds A B:=jo h (ha · ⟨⟩) (hb · ⟨⟩) hc
theorem wol{K:Int->Prop}(h:x=some r)(k:True->True->x=some r->K xs.length):bBg (xs.map f) K:=ol (k ⟨⟩ ⟨⟩ h)
theorem cPa{b:Bool}{q:Prop}(h:x=some r)(k:True->True->x=some r->q)(hb:b=true:=by kernel_rfl):b=true/\q:=⟨hb,k ⟨⟩ ⟨⟩ h⟩
theorem wdr{b:Bool}{q:Prop}(h:x=some r)(k:True->True->x=some r->q)(hb:b=true:=by kernel_rfl):ODr b q:=⟨hb,k ⟨⟩ ⟨⟩ h⟩
theorem wde{p q:Prop}(h:x=some r)(k:True->True->x=some r->q)(hp:p:=by decide):p/\q:=⟨hp,k ⟨⟩ ⟨⟩ h⟩
theorem wge{q:Int}{p:Prop}{g:Unit->Option γ}(h:(chk (decide (0<=q))).bind g=some r)(k:True->True->g ()=some r->p):0<=q/\p:=oge h (k ⟨⟩ ⟨⟩)
theorem wnz{q:Int}{p:Prop}{g:Unit->Option γ}(h:(chk (!decide (q=0))).bind g=some r)(k:True->True->g ()=some r->p):q≠0/\p:=onz h (k ⟨⟩ ⟨⟩)
theorem woi{p:Int}{K:List D->Prop}(h:(idx xs p).bind g=some r)(k:∀x,idx xs p=some x->g x=some r->K (f x)):bGm (xs.map f) p K:=oiy h k
theorem wro{p:Int}{z:α}{K:List D->Prop}(hi:idx xs p=some z)(h:x=some r)(k:True->True->x=some r->K (f z)):∃ds,(xs.map f)[p.toNat]?=some ds/\K ds:=⟨_,xZ f hi,k ⟨⟩ ⟨⟩ h⟩
theorem wst{p:Int}{z v:α}{es:List D}{K:List D->List (List D)->Prop}(hi:idx xs p=some z)(h:x=some r)(k:True->True->x=some r->K (f z) ((xs.set p.toNat v).map f))(he:es=f v:=by exact rfl)(hl:∀a,(f a).length=es.length:=by exactλ_=>rfl):
  ∃ds rows',(xs.map f)[p.toNat]?=some ds/\0+es.length<=ds.length/\(xs.map f).set p.toNat (dO ds 0 es)=rows'/\K ds rows':=by
 refine⟨_,_,xZ f hi,by rw[hl z];omega,?_,k ⟨⟩ ⟨⟩ h⟩;subst he;have:(f z).drop (f v).length=[]:=List.drop_eq_nil_of_le (by rw[hl z];exact n5 _)
 simp[dO,this]
theorem wap{g:List α->Option γ}{k0 bytes:Nat}{K:List (List D)->Prop}(h:(app bytes xs ys).bind g=some r)(k:∀zs,True->g zs=some r->K (zs.map f))(hk:∀x,(f x).length=k0:=by exactλ_=>rfl):bPg k0 bytes (xs.map f) (ys.map f) K:=oap h (k · ⟨⟩) hk
theorem wsb{g:List α->Option γ}{lo hi:Int}{K:List (List D)->Prop}(h:(sub xs lo hi).bind g=some r)(k:∀zs,True->g zs=some r->K (zs.map f)):bBh (xs.map f) lo hi K:=osb h (k · ⟨⟩)
end
section
variable{P:Program}{n d:Nat}{S:VS}{ty:TypeId}{pos:String}{af:Array Edge}{gd:Option (Nat×Bool)}{K:Eff->Prop}{c:Callee}{l:List Operand}{ts:Array TypeId}{f:FuncId}{ars:List AV}{α γ:Type}{sh:Option α}{r:γ}{g:α->Option γ}{enc:α->AV}{args':List AV}{x y:Operand}{t u:TypeId}{X:Option γ}
theorem wcl[Mode][kc:KC P sh f args' enc](h:sh.bind g=some r)(k:∀x,True->g x=some r->bIo (ars.flatMap (aPx S.objs)) λus=>K (.r (enc x) us))
  (hc:lE S l c=some (f,ars):=by exact rfl)(hv:nlL (ars.map (vA S.objs)) args'=args':=by exact rfl)(hok:(Nat.ble (d+1) n&&(fU l&&args'.all okA))=true:=by exact rfl)(hl:∀x,(enc x).isLit=true:=by exactλ_=>rfl):
  bY P n ⟨some d,.call ⟨c,l.toArray,ts⟩,ty,pos,af,gd⟩ S K:=cl kc.e kc.h h (k · ⟨⟩) hc hv hok hl
theorem wcd[Mode][kc:KC P sh f args' enc](h:sh.bind g=some r)(k:∀x,True->g x=some r->K (.p (enc x)))
  (hc:lE S l c=some (f,ars):=by exact rfl)(hv:nlL ars args'=args':=by exact rfl)(hok:(Nat.ble (d+1) n&&(fU l&&ars.all okA))=true:=by exact rfl)(hl:∀x,okR (enc x)=true:=by exactλ_=>rfl):
  bY P n ⟨some d,.call ⟨c,l.toArray,ts⟩,ty,pos,af,gd⟩ S K:=cd kc.e kc.h h (k · ⟨⟩) hc hv hok hl
theorem wmx[Mode]{k0:IntKind}{p q:Int}(h:X=some r)(k:True->True->X=some r->K (.p (.d (.lit (.int k0 (max p q))))))(hx:S.ev x=.d (.lit (.int k0 p)):=by exact rfl)(hy:S.ev y=.d (.lit (.int k0 q)):=by exact rfl)(hl:Nat.ble (d+1) n=true:=by exact rfl):
  bY P n ⟨some d,.call {callee:=.builtin .max,args:= #[x,y],argTypes:=ts},ty,pos,af,gd⟩ S K:=bRk (k ⟨⟩ ⟨⟩ h) hx hy hl
theorem wmn[Mode]{k0:IntKind}{p q:Int}(h:X=some r)(k:True->True->X=some r->K (.p (.d (.lit (.int k0 (min p q))))))(hx:S.ev x=.d (.lit (.int k0 p)):=by exact rfl)(hy:S.ev y=.d (.lit (.int k0 q)):=by exact rfl)(hl:Nat.ble (d+1) n=true:=by exact rfl):
  bY P n ⟨some d,.call {callee:=.builtin .min,args:= #[x,y],argTypes:=ts},ty,pos,af,gd⟩ S K:=cKu (k ⟨⟩ ⟨⟩ h) hx hy hl
class EQ (P:Program) (t:TypeId) {α:outParam Type} [dec:outParam (DecidableEq α)] (enc:outParam (α->List D)):Prop where
 g:P.eqGuardType P.depth t=false
 e:aDw P t enc
theorem weq[Mode]{α:Type}[DecidableEq α]{enc:α->List D}{a b:α}[q:EQ P t enc](h:X=some r)(k:True->True->X=some r->K (.p (.b (decide (a=b)))))(hx:S.ev x=.agg (enc a):=by exact rfl)(hy:S.ev y=.agg (enc b):=by exact rfl)
  (hl:(Nat.ble (d+1) n&&(dY (enc a)&&dY (enc b)))=true:=by exact rfl)(hv:(enc a++enc b).any hvD=false:=by exact rfl):bY P n ⟨some d,.binOp .eql t x y u,ty,pos,af,gd⟩ S K:=bCp q.g q.e (k ⟨⟩ ⟨⟩ h) hx hy hl hv
theorem wne[Mode]{α:Type}[DecidableEq α]{enc:α->List D}{a b:α}[q:EQ P t enc](h:X=some r)(k:True->True->X=some r->K (.p (.b (!decide (a=b)))))(hx:S.ev x=.agg (enc a):=by exact rfl)(hy:S.ev y=.agg (enc b):=by exact rfl)
  (hl:(Nat.ble (d+1) n&&(dY (enc a)&&dY (enc b)))=true:=by exact rfl)(hv:(enc a++enc b).any hvD=false:=by exact rfl):bY P n ⟨some d,.binOp .neq t x y u,ty,pos,af,gd⟩ S K:=bRm q.g q.e (k ⟨⟩ ⟨⟩ h) hx hy hl hv
end
def hvL:List D->List Nat
 |[]=>[]
 | .hv _ h _::l=>h::hvL l
 |_::l=>hvL l
def cOj(objs:List (Nat×VO)):List Nat:=100000::(match ob objs 100000 with
 |some (.box ds)=>hvL ds
 |_=>[])
theorem wtk{objs:List (Nat×VO)}{F:List (Nat×VO)->List (Nat×VO)->Prop}(h:aPt (cOj objs) objs F):∃hs,aPt hs objs F:=⟨_,h⟩
def arV(l:List MO)(i:Nat):Value:=match l[i]? with
 |some (.arr v _ _ _)=>v
 |_=>undef
theorem we1{A:Prop}{o:List MO}{F:Value->List MO}(ha:A)(h:o=F (arV o 1)):∃e,A/\o=F e:=⟨_,ha,h⟩
theorem we2{A:Prop}{o:List MO}{F:Value->Value->List MO}(ha:A)(h:o=F (arV o 1) (arV o 2)):∃e f,A/\o=F e f:=⟨_,_,ha,h⟩
theorem we3{A:Prop}{o:List MO}{F:Value->Value->Value->List MO}(ha:A)(h:o=F (arV o 1) (arV o 2) (arV o 3)):∃e f g,A/\o=F e f g:=⟨_,_,_,ha,h⟩
def mtD:D->D->List (Nat×Nat)
 | .hv _ a _,.hv _ b _=>bif Nat.beq a b then [] else [(a,b)]
 |_,_=>[]
def mtL:List D->List D->List (Nat×Nat)
 |x::l,y::m=>mtD x y++mtL l m
 |_,_=>[]
def mtA:AV->AV->List (Nat×Nat)
 | .d x,.d y=>mtD x y
 | .agg xs,.agg ys=>mtL xs ys
 | .bp a _ _,.bp b _ _=>bif Nat.beq a b then [] else [(a,b)]
 |_,_=>[]
def mtE(S:List (Nat×AV)):List (Nat×AV)->List (Nat×Nat)
 |[]=>[]
 |p::l=>mtA p.2 (lk S p.1)++mtE S l
def mtO(S:List (Nat×VO))(rn:List (Nat×Nat)):List (Nat×VO)->List (Nat×Nat)
 |[]=>[]
 | p::l=>(match p.2,ob S (rl rn p.1) with
  | .box ds,some (.box es)=>mtL ds es
  |_,_=>[])++mtO S rn l
def bKb(S S':VS):List (Nat×Nat):=mtE S.env S'.env++mtO S.objs (mtE S.env S'.env) S'.objs
theorem eB[Mode]{β:lS}{S S':VS}(h1:S'.env.map (λp=>lk S.env p.1)=S'.env.map (λp=>rnA (bKb S S') p.2):=by kernel_rfl)(h2:S'.objs.map (λp=>ob S.objs (rl (bKb S S') p.1))=S'.objs.map (λp=>some (rnO (bKb S S') p.2)):=by kernel_rfl)
  (h3:(aXa (bKb S S')&&apart (S'.objs.map λp=>rl (bKb S S') p.1))=true:=by kernel_rfl):LeV β S S':=lev _ h1 h2 h3
section
variable{P:Program}{T:TT P}{n:Nat}{β:lS}{X:XP}{c:Code}{S:VS}{Q:Exit->VS->Prop}{R A B C D' E G H J:Type}{r:R}{k0:Nat}(ks hs:List Nat)
theorem xl0[Mode](σ:A->List (Nat×AV)×List (Nat×VO)){F:Nat->A->Option R}{a0:A}(h0:F k0 a0=some r)(he:LeV β S (S.pt ks (σ a0).1 hs (σ a0).2))
  (body:∀k a,F (k+1) a=some r->TrV P n β c (S.pt ks (σ a).1 hs (σ a).2) λe S'=>match e with| .normal=>∃a',F k a'=some r/\LeV β S' (S.pt ks (σ a').1 hs (σ a').2)|e=>Q e S')(hz:∀a,F 0 a=none):OLp T n β X c S Q:=by
 refine⟨aIk he λρ hρ=>?_⟩;refine aUg (λs:A×{ρ:Rho // ρ.β=β}=>(S.pt ks (σ s.1).1 hs (σ s.1).2).at s.2.1) (λk s=>F k s.1) r (λs=>hz s.1) ?_ k0 (a0,⟨ρ,hρ⟩) h0;rintro k ⟨a,ρ1,h1⟩ hk;refine nJ (body k a hk ρ1 h1) ?_;rintro e st ⟨S',ρ',hβ,hq,hent⟩;cases e with
 | normal=>
  obtain⟨a',ha,hl⟩:=hq;obtain⟨ρ2,h2,he2⟩:=hl ρ' hβ;exact⟨(a',⟨ρ2,h2⟩),ha,hent.trans he2⟩
 |_=>exact⟨S',ρ',hβ,hq,hent⟩
theorem xl1[Mode](σ:A->List (Nat×AV)×List (Nat×VO)){F:Nat->A->Option R}{a0:A}(h0:F k0 a0=some r)(he:LeV β S (S.pt ks (σ a0).1 hs (σ a0).2))
  (body:∀k a,F (k+1) a=some r->S.ptK ks (σ a).1 hs (σ a).2 λS1=>wK T n β X c S1 λe S'=>match e with| .normal=>∃a',F k a'=some r/\LeV β S' (S.pt ks (σ a').1 hs (σ a').2)|e=>Q e S')(hz:∀a,F 0 a=none:=by exactλ_=>rfl):OLp T n β X c S Q:=
 xl0 ks hs (λp:A=>σ p) (F:=λk p=>F k p) (a0:=a0) h0 he (λk p h=>aJy (pA (aPg (body k p h))) λe S1 q=>by cases e with|normal=>obtain⟨a,h1,h2⟩:=q;exact⟨a,h1,h2⟩|_=>exact q) λ_=>hz _
theorem xl2[Mode](σ:A->B->List (Nat×AV)×List (Nat×VO)){F:Nat->A->B->Option R}{a0:A}{b0:B}(h0:F k0 a0 b0=some r)(he:LeV β S (S.pt ks (σ a0 b0).1 hs (σ a0 b0).2))
  (body:∀k a b,F (k+1) a b=some r->S.ptK ks (σ a b).1 hs (σ a b).2 λS1=>wK T n β X c S1 λe S'=>match e with| .normal=>∃a' b',F k a' b'=some r/\LeV β S' (S.pt ks (σ a' b').1 hs (σ a' b').2)|e=>Q e S')(hz:∀a b,F 0 a b=none:=by exactλ_ _=>rfl):OLp T n β X c S Q:=
 xl0 ks hs (λp:A×B=>σ p.1 p.2) (F:=λk p=>F k p.1 p.2) (a0:=(a0,b0)) h0 he (λk p h=>aJy (pA (aPg (body k p.1 p.2 h))) λe S1 q=>by cases e with|normal=>obtain⟨a,b,h1,h2⟩:=q;exact⟨(a,b),h1,h2⟩|_=>exact q) λ_=>hz _ _
theorem xl3[Mode](σ:A->B->C->List (Nat×AV)×List (Nat×VO)){F:Nat->A->B->C->Option R}{a0:A}{b0:B}{d0:C}(h0:F k0 a0 b0 d0=some r)(he:LeV β S (S.pt ks (σ a0 b0 d0).1 hs (σ a0 b0 d0).2))
  (body:∀k a b d,F (k+1) a b d=some r->S.ptK ks (σ a b d).1 hs (σ a b d).2 λS1=>wK T n β X c S1 λe S'=>match e with| .normal=>∃a' b' d',F k a' b' d'=some r/\LeV β S' (S.pt ks (σ a' b' d').1 hs (σ a' b' d').2)|e=>Q e S')(hz:∀a b d,F 0 a b d=none:=by exactλ_ _ _=>rfl):OLp T n β X c S Q:=
 xl0 ks hs (λp:A×B×C=>σ p.1 p.2.1 p.2.2) (F:=λk p=>F k p.1 p.2.1 p.2.2) (a0:=(a0,b0,d0)) h0 he (λk p h=>aJy (pA (aPg (body k p.1 p.2.1 p.2.2 h))) λe S1 q=>by cases e with|normal=>obtain⟨a,b,d,h1,h2⟩:=q;exact⟨(a,b,d),h1,h2⟩|_=>exact q) λ_=>hz _ _ _
theorem xl4[Mode](σ:A->B->C->D'->List (Nat×AV)×List (Nat×VO)){F:Nat->A->B->C->D'->Option R}{a0:A}{b0:B}{d0:C}{e0:D'}(h0:F k0 a0 b0 d0 e0=some r)(he:LeV β S (S.pt ks (σ a0 b0 d0 e0).1 hs (σ a0 b0 d0 e0).2))
  (body:∀k a b d e,F (k+1) a b d e=some r->S.ptK ks (σ a b d e).1 hs (σ a b d e).2 λS1=>wK T n β X c S1 λe S'=>match e with| .normal=>∃a' b' d' e',F k a' b' d' e'=some r/\LeV β S' (S.pt ks (σ a' b' d' e').1 hs (σ a' b' d' e').2)|e=>Q e S')(hz:∀a b d e,F 0 a b d e=none:=by exactλ_ _ _ _=>rfl):OLp T n β X c S Q:=
 xl0 ks hs (λp:A×B×C×D'=>σ p.1 p.2.1 p.2.2.1 p.2.2.2) (F:=λk p=>F k p.1 p.2.1 p.2.2.1 p.2.2.2) (a0:=(a0,b0,d0,e0)) h0 he (λk p h=>aJy (pA (aPg (body k p.1 p.2.1 p.2.2.1 p.2.2.2 h))) λe S1 q=>by cases e with|normal=>obtain⟨a,b,d,e,h1,h2⟩:=q;exact⟨(a,b,d,e),h1,h2⟩|_=>exact q) λ_=>hz _ _ _ _
theorem xl6[Mode](σ:A->B->C->D'->E->G->List (Nat×AV)×List (Nat×VO)){F:Nat->A->B->C->D'->E->G->Option R}{a0:A}{b0:B}{d0:C}{e0:D'}{f0:E}{g0:G}(h0:F k0 a0 b0 d0 e0 f0 g0=some r)(he:LeV β S (S.pt ks (σ a0 b0 d0 e0 f0 g0).1 hs (σ a0 b0 d0 e0 f0 g0).2))
  (body:∀k a b d e f g,F (k+1) a b d e f g=some r->S.ptK ks (σ a b d e f g).1 hs (σ a b d e f g).2 λS1=>wK T n β X c S1 λe S'=>match e with| .normal=>∃a' b' d' e' f' g',F k a' b' d' e' f' g'=some r/\LeV β S' (S.pt ks (σ a' b' d' e' f' g').1 hs (σ a' b' d' e' f' g').2)|e=>Q e S')(hz:∀a b d e f g,F 0 a b d e f g=none:=by exactλ_ _ _ _ _ _=>rfl):OLp T n β X c S Q:=
 xl0 ks hs (λp:A×B×C×D'×E×G=>σ p.1 p.2.1 p.2.2.1 p.2.2.2.1 p.2.2.2.2.1 p.2.2.2.2.2) (F:=λk p=>F k p.1 p.2.1 p.2.2.1 p.2.2.2.1 p.2.2.2.2.1 p.2.2.2.2.2) (a0:=(a0,b0,d0,e0,f0,g0)) h0 he (λk p h=>aJy (pA (aPg (body k p.1 p.2.1 p.2.2.1 p.2.2.2.1 p.2.2.2.2.1 p.2.2.2.2.2 h))) λe S1 q=>by cases e with|normal=>obtain⟨a,b,d,e,f,g,h1,h2⟩:=q;exact⟨(a,b,d,e,f,g),h1,h2⟩|_=>exact q) λ_=>hz _ _ _ _ _ _
end
theorem wv1{r:AV}{o:List MO}{F:Value->List MO}(hr:r=.d (.lit (arV o 0)))(h:o=F (arV o 0)):∃e,r=.d (.lit e)/\o=F e:=⟨_,hr,h⟩
theorem S2{A B G:Prop}(a:A)(b:B)(p:A->B->G:=by intro a b;first|exact wbr h a b|exact wjg h a b|exact wjo h a b):G:=p a b
theorem S1{A G:Prop}(a:A)(p:A->G:=by intro a;first|exact wcl h a|exact woi h a|exact wol h a|exact cPa h a|exact wdr h a|exact wap h a|exact wcd h a|exact wge h a|exact wnz h a|exact wde h a|exact wsb h a|exact wmx h a|exact wmn h a|exact weq h a|exact wne h a|exact wro (by assumption) h a|exact wst (by assumption) h a):G:=p a
theorem S0{G:Prop}(p:G:=by first|exact jt h|exact⟨_,h,eB⟩|exact⟨_,_,h,eB⟩|exact⟨_,_,_,h,eB⟩|exact⟨_,_,_,_,h,eB⟩|exact⟨_,_,_,_,_,h,eB⟩|exact⟨_,_,_,_,_,_,h,eB⟩|exact⟨_,_,_,_,_,_,_,h,eB⟩|(cases h<;>first|exact⟨rfl,rfl,rfl⟩|exact⟨rfl,_,_,rfl,rfl,rfl,rfl,rfl⟩|exact⟨rfl,_,_,_,rfl,rfl,rfl,rfl,rfl,rfl⟩|exact⟨by first|exact rfl|exact .inl rfl|exact .inr rfl,wtk λ_ _ _=>by first|exact⟨rfl,by kernel_rfl⟩|exact we1 rfl (by kernel_rfl)|exact we2 rfl (by kernel_rfl)|exact we3 rfl (by kernel_rfl)|exact wv1 (by kernel_rfl) (by kernel_rfl)⟩)):G:=p
theorem fnw[Mode]{P:Program}(T:TT P)(X:XP){f:FuncId}{fn:Func}{c:Code}{args:List AV}{r:AV}{N:Nat}{rs:List ResultVar}(hf:P.funcs[f]?=some fn)(hr:fn.results=rs.toArray)(hn:fn.ntmps=N)
  (hb:fn.body=some c:=by exact rfl)(ha:(Nat.ble args.length N&&args.all okR)=true:=by exact rfl)
  (h:wK T N (λ_=>(0,0,undef)) X c ⟨aEd 0 args,[]⟩ (λe S=>e=.ret/\bSd T S r rs):=by repeat' ((conv=>whnf);first|(refine S2 ?_ ?_<;>intro _ _ h)|(refine S1 ?_;intro _ _ h)|exact S0)):Fn P f args r:=fnx T X rs hf hr hn h hb ha
end Go.Am
end
end
