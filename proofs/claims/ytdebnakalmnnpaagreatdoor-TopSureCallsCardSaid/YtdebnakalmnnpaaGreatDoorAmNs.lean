/- Several texts, one behind the other. -/
import Derived.Test.YtdebnakalmnnpaaGreatDoorAmX17
import Derived.Test.YtdebnakalmnnpaaGreatDoorAmEnt
section
namespace Go.Am
def toDV:AV->AV
 | .bp h _ j=>.d (.hv 2 h j)
 | .cp xs=>.d (.pt xs)
 |x=>x
theorem cCh(ρ:Rho){x:AV}{w:World}{X:aS}{v:Value}(h:VR w X (ρ.av x) v):VR w X (ρ.av (toDV x)) v:=by
 cases x with
 | bp h' o' j=>
  have hd:=bAx ρ (x:=.bp h' o' j) rfl h;cases h with
  |bp=>exact .d hd.1
 | cp xs=>
  have hd:=bAx ρ (x:=.cp xs) rfl h;cases h with
  |cp=>exact .d hd.1
 |_=>exact h
section
variable{P:Program}{n d:Nat}{S:VS}{ty:TypeId}{pos:String}{af:Array Edge}{gd:Option (Nat×Bool)}{K:Eff->Prop}{Kv:VS->Prop}
theorem PRs.toDV{ρ:Rho}{w:World}{X:aS}:∀{ps:List (Nat×AV)} {l':List (Nat×Value)},PRs w X (ps.map λp=>(p.1,ρ.av p.2)) l'->PRs w X ((ps.map λp=>(p.1,toDV p.2)).map λp=>(p.1,ρ.av p.2)) l'
 |[],[],_=>trivial
 |(_,_)::_,(_,_)::_,h=>⟨h.1,cCh ρ h.2.1,PRs.toDV h.2.2⟩
 |[],_::_,h=>h.elim
 |(_,_)::_,[],h=>h.elim
theorem bNb[Mode]{t:TypeId}{z:Value}{pl:List (Nat×Nat)}{l:List (Nat×Operand)}{zs es:List D}(ht:oP P t z pl)(hzs:z.cells=(zs.map bA).toArray)(k:K (.p (.agg es)))
  (he:aAw (λi=>pl[i]?) zs ((St.parts ⟨λk=>lk S.env k,[]⟩ l).map λp=>(p.1,toDV p.2))=some es:=by exact rfl)(hz:zOK zs=true:=by exact rfl)(hok:(Nat.ble (d+1) n&&xH l)=true:=by exact rfl):
  cA P n ⟨some d,.build t l.toArray,ty,pos,af,gd⟩ S K:=by
 simp only[Bool.and_eq_true] at hok;refine dL (us:=[]) k λS' hA ρ=>?_;have hps:=aOr (S:=S) (S':=S') ρ (l:=l) λp hp=>hA.ev _ (by simp[Op.operands];exact⟨_,hp⟩);have hf:=aVx ρ he;rw[zN hz] at hf;have hA':ρ.av (.agg es)=.agg (es.map ρ.dd):=rfl;rw[hA'];refine bZ rfl (Nat.le_of_ble_eq_true hok.1) λA M w0 a w hR=>?_;obtain⟨hz',fs,hu,hm⟩:=ht;have hr:=aCj hR hok.2;rw[hps] at hr;obtain⟨cs',h1,h2⟩:=aVy (place:=λi=>pl[i]?) (cs:=(zs.map bA).toArray) (by simpa using aBu (w:=w) (X:=aT A (S'.at ρ).objs) hz) hr.toDV hf;refine⟨.agg cs',?_,.agg h2⟩;have h1':Instr.fill (λx=>pl.toArray[x]?) (zs.map bA).toArray (l.map λ(i,x)=>(i,a.eval x))=some cs':=by
  rw[<-h1];congr 1;funext i;simp
 simp only[execOp,Instr.build,Sem.run_bind,hz',Result.andThen_ok,hu,hm,hzs,List.map_toArray];rw[h1']
 simp
theorem cHa[Mode]{t el m h o j q:Nat}{x y:Operand}{kd:IntKind}(kk:Nat)(ht:P.underlying t=some (.array m el))(hs:∀w,(sizeOf el).run P w=.ok kk w)(hm:0<m/\m<=maxLen)(k:K (.p (.d (.sl q []))))
  (hx:S.ev x=.bp h o j:=by exact rfl)(hy:S.ev y=.d (.lit (.int kd 0)):=by exact rfl)(hok:(Nat.ble (d+1) n&&cD x)=true:=by exact rfl):
  cA P n ⟨some d,.slice t x none (some y) none,ty,pos,af,gd⟩ S K:=by
 simp only[Bool.and_eq_true] at hok;refine dL (us:=[]) k λS' hA ρ=>?_;have e1:(S'.at ρ).eval x=.bp (ρ.bb h) (ρ.oo h) j:=by rw[uF,hA.ev x (by simp[Op.operands]),hx];rfl
 have e2:(S'.at ρ).eval y=.d (.lit (.int kd 0)):=by rw[uF,hA.ev y (by simp[Op.operands]),hy];rfl
 show aM P n _ _ ((S'.at ρ).set d (.d (.sl q [])));refine bZ rfl (Nat.le_of_ble_eq_true hok.1) λA M w0 a w hR=>?_;have hv:=hR.eval' hok.2;rw[e1] at hv
 generalize hu:a.eval x=u at hv
 cases hv with
 | bp=>
  refine⟨.slice (some ⟨ρ.bb h,ρ.oo h+j,none⟩) 0 m,?_,.d (.sl q [] _ _ m (λ_ _=>undef) (by simp) (by simp) hm.2 (by simp) (by simp))⟩
  simp[execOp,Instr.sliceAt,Instr.sureAddr,run_underlying ht,hu,hR.lit e2,Instr.sliceBounds,Instr.sliceBound,asIntOf,hs,Addr.add,show¬m=0 by omega]
theorem bXg[Mode]{β:qT}{t kt et:TypeId}{A B:Type}{kv:A->Value}{enc:B->List D}{agg:Bool}{l:List (A×B)}{av:B->AV}{x:Operand}(h1 h2:Nat)(ha:∀v,av v=nC agg (enc v))(ht:P.underlying t=some (.map kt et))
  (k:∀q r bs ck,cQ l bs []=l->Kv ⟨(d,.d (.lit (.pointer (some ⟨q,0,none⟩))))::S.env,S.objs++[(h1,.raw (aFp kv av l r bs ck)),(h2,.raw (.iter q r ck [] ck))]⟩)
  (hx:S.ev x=.d (.mp agg (l.map λp=>(kv p.1,enc p.2))):=by exact rfl)(hok:(Nat.ble (d+1) n&&cD x)=true:=by exact rfl):
  aKv P n β ⟨some d,.range t x,ty,pos,af,gd⟩ S Kv:=by
 intro ρ hρ;simp only[Bool.and_eq_true] at hok;have e:(S.at ρ).eval x=.d (.mp agg (l.map λp=>(kv p.1,enc p.2))):=by rw[uF,hx];rfl
 refine dJ (bQr ha (Nat.le_of_ble_eq_true hok.1) ht e hok.2) ?_;rintro s ⟨q,r,bs,ck,hl,rfl⟩;refine⟨_,ρ,hρ,k q r bs ck hl,lA ?_⟩;have e2:=qP (ρ:=ρ) S d (.d (.lit (.pointer (some ⟨q,0,none⟩))));simp only[VS.at,St.set,St.mk.injEq] at e2|-;refine⟨e2.1,?_⟩
 simp[Rho.mo]
theorem bXb[Mode]{β:qT}{A B:Type}{kv:A->Value}{av:B->AV}{l:List (A×B)}{x:Operand}{q r:Nat}{bs seen:List Nat}{ck:Nat}(h1 h2:Nat)
  (k0:cQ l bs seen=[]->Kv ⟨(d,.tup [.b false])::S.env,S.objs⟩)
  (k1:∀(j b:Nat) (p:A×B),(bs.Pairwise (·<·)/\l[j]?=some p/\bs[j]?=some b/\b∉seen)->Kv ⟨(d,.tup [.b true,.any,.any])::S.env,fD h2 (.raw (.iter q r ck (seen++[b]) ck)) S.objs⟩)
  (hx:S.ev x=.d (.lit (.pointer (some ⟨q,0,none⟩))):=by exact rfl)(hi:ob S.objs h2=some (.raw (.iter q r ck seen ck)):=by exact rfl)(hm:ob S.objs h1=some (.raw (aFp kv av l r bs ck)):=by exact rfl)(hd:Nat.ble (d+1) n=true:=by exact rfl):
  aKv P n β ⟨some d,.next x false,ty,pos,af,gd⟩ S Kv:=by
 intro ρ hρ;have e:(S.at ρ).eval x=.d (.lit (.pointer (some ⟨q,0,none⟩))):=by rw[uF,hx];rfl
 obtain⟨i,i1,i2,_⟩:=sE (ρ:=ρ) hi;obtain⟨m,m1,_,_⟩:=sE (ρ:=ρ) hm;refine dJ (bUt (mi:=i) (mm:=m) (kv:=kv) (av:=av) (l:=l) (bs:=bs) (Nat.le_of_ble_eq_true hd) e i1 m1) ?_;rintro s (⟨hl,rfl⟩|⟨j,b,p,hp,rfl⟩)
 ·exact⟨_,ρ,hρ,k0 hl,lA (qP (ρ:=ρ) S d (.tup [.b false]))⟩
 ·refine⟨_,ρ,hρ,k1 j b p hp,lA ?_⟩;have e2:=qP (ρ:=ρ) S d (.tup [.b true,.any,.any]);have e3:=i2 (.raw (.iter q r ck (seen++[b]) ck));simp only[VS.at,St.set,St.mk.injEq] at e2|-;exact⟨e2.1,e3⟩
theorem bWy[Mode]{A B:Type}{kv:A->Value}{av:B->AV}{l:List (A×B)}{x:Operand}{q r j b:Nat}{p:A×B}{bs seen:List Nat}{ck:Nat}{ka:AV}(h1 h2:Nat)(hp:bs.Pairwise (·<·)/\l[j]?=some p/\bs[j]?=some b/\b∉seen)(hk:∀w X,VR w X ka (kv p.1))
  (k:K (.r (.tup [ka,av p.2]) [h1,h2]))(hl:∀ρ:Rho,ρ.av (.tup [ka,av p.2])=.tup [ka,av p.2]:=by exactλ_=>rfl)
  (hx:S.ev x=.d (.lit (.pointer (some ⟨q,0,none⟩))):=by exact rfl)(hi:ob S.objs h2=some (.raw (.iter q r ck (seen++[b]) ck)):=by exact rfl)(hm:ob S.objs h1=some (.raw (aFp kv av l r bs ck)):=by exact rfl)(hd:Nat.ble (d+1) n=true:=by exact rfl):
  cA P n ⟨some d,.entry x,ty,pos,af,gd⟩ S K:=by
 refine dL (us:=[h1,h2]) k λS' hA ρ=>?_;obtain⟨i,i1,_,_⟩:=sE (ρ:=ρ) ((hA.ob h2 (by simp)).trans hi);obtain⟨m,m1,_,_⟩:=sE (ρ:=ρ) ((hA.ob h1 (by simp)).trans hm);rw[hl];have e:(S'.at ρ).eval x=.d (.lit (.pointer (some ⟨q,0,none⟩))):=by rw[uF,hA.ev x (by simp[Op.operands]),hx];rfl
 exact bQm (mi:=i) (mm:=m) (kv:=kv) (av:=av) (l:=l) (bs:=bs) (Nat.le_of_ble_eq_true hd) e i1 m1 hp hk
theorem bHh[Mode]{env env':Nat->AV}{objs:List MO}(h:∀k w X v,VR w X (env k) v->VR w X (env' k) v):Ent ⟨env,objs⟩ ⟨env',objs⟩:=
 λ_ _ _ _ _ _ hR=>⟨hR.size,hR.defers,λk=>h k _ _ _ (hR.env k),hR.inv,hR.keeps,hR.own,hR.old⟩
theorem aXq{w:World}{X:aS}{b o j:Nat}{v:Value}:VR w X (.bp b o j) v↔VR w X (.d (.lit (.pointer (some ⟨b,o+j,none⟩)))) v:=by
 constructor
 ·intro h;cases h with|bp=>exact .d (.lit _ rfl)
 ·intro h;cases h with|d h=>cases h with|lit=>exact .bp _ _ _
theorem cFt[Mode]{β:qT}{t kt et:TypeId}{A:Type}[DecidableEq A]{kv:A->Value}{a:A}{l:List (A×Value)}{x y:Operand}{q h hq o j:Nat}{yv:AV}(hk:mX P kt kv)(ht:P.underlying t=some (.map kt et))(hy:uB kv yv a)
  (k:Kv ⟨S.env,fD h (.map false ((eM a (.pointer (some ⟨(β hq).1,(β hq).2.1+j,none⟩)) l).map λp=>(kv p.1,[.lit p.2]))) S.objs⟩)(hb:Nat.ble 100000 hq=true:=by exact rfl)
  (hx:S.ev x=.d (.hv 1 h 0):=by exact rfl)(hm:ob S.objs h=some (.map false (l.map λp=>(kv p.1,[.lit p.2]))):=by exact rfl)(hok:(cD y&&okA yv)=true:=by exact rfl)(hyv:S.ev y=yv:=by exact rfl)(hq':lk S.env q=.bp hq o j:=by exact rfl)
  (hyq:∀z,y=.tmp z->Nat.beq q z=false:=by(intro z hz;cases hz;rfl))(hxq:∀z,x=.tmp z->Nat.beq q z=false:=by(intro z hz;cases hz;rfl)):
  aKv P n β ⟨none,.mapUpdate t x y (.tmp q),ty,pos,af,gd⟩ S Kv:=by
 intro ρ hρ;subst hρ;simp only[Bool.and_eq_true] at hok;obtain⟨i,h1,h2,_⟩:=sE (ρ:=ρ) hm;have hi:=(List.getElem?_eq_some_iff.1 h1).1;have hbb:ρ.bb hq=(ρ.β hq).1/\ρ.oo hq=(ρ.β hq).2.1:=by simp[Rho.bb,Rho.oo,hb]
 have heq:(S.at ρ).env q=.bp (ρ.bb hq) (ρ.oo hq) j:=by show ρ.av (lk S.env q)=_;rw[hq'];rfl
 have hne:∀z:Operand,(∀k,z=.tmp k->Nat.beq q k=false)->St.eval ⟨upd (S.at ρ).env q (.d (.lit (.pointer (some ⟨ρ.bb hq,ρ.oo hq+j,none⟩)))),(S.at ρ).objs⟩ z=(S.at ρ).eval z:=by
  intro z hz;cases z with
  |tmp k=>exact lJ _ _ (by intro e;subst e;have:=hz q rfl;simp at this)
  |_=>rfl
 refine bYa (st1:=⟨upd (S.at ρ).env q (.d (.lit (.pointer (some ⟨ρ.bb hq,ρ.oo hq+j,none⟩)))),(S.at ρ).objs⟩) (bHh λk w X v hv=>?_) ?_
 ·by_cases hk':q=k
  ·subst hk';rw[fK];rw[hq'] at hv;exact aXq.1 hv
  ·rw[lJ _ _ hk'];exact hv
 refine aUf (i:=i) h1 λbs ck _=>?_;have e1:((l.map λp=>(kv p.1,[D.lit p.2])).map (elE false))=l.map λp=>(kv p.1,AV.d (.lit p.2)):=by rw[List.map_map];rfl
 rw[e1];have hyv':(S.at ρ).eval y=yv:=by rw[uF,hyv,aAi ρ hok.2]
 refine dJ (aAn (av:=λv=>AV.d (.lit v)) (v:=.pointer (some ⟨ρ.bb hq,ρ.oo hq+j,none⟩)) (a:=a) (l:=l) (m:=i) (r:=ρ.bb h) (bs:=bs) (clock:=ck) hk ht ?_ (List.getElem?_set_self hi) hok.1 (yv:=yv) ?_ hy rfl ?_) ?_
 ·exact(hne x hxq).trans ((uF S x).trans (by rw[hx];rfl))
 ·exact(hne y hyq).trans hyv'
 ·exact fK _ _ _
 ·rintro s rfl;refine⟨_,ρ,rfl,k,?_⟩;simp only[List.set_set];have e2:((eM a (Value.pointer (some ⟨ρ.bb hq,ρ.oo hq+j,none⟩)) l).map λp=>(kv p.1,AV.d (.lit p.2)))=((eM a (Value.pointer (some ⟨(ρ.β hq).1,(ρ.β hq).2.1+j,none⟩)) l).map λp=>(kv p.1,[D.lit p.2])).map (elE false):=by
   rw[hbb.1,hbb.2,List.map_map];rfl
  rw[e2];refine(aRm hi (λ_ e he=>?_)).trans ?_
  ·obtain⟨p,_,rfl⟩:=List.mem_map.1 he;rfl
  have e3:=h2 (.map false ((eM a (Value.pointer (some ⟨(ρ.β hq).1,(ρ.β hq).2.1+j,none⟩)) l).map λp=>(kv p.1,[D.lit p.2])));refine(bHh (env':=(S.at ρ).env) λk w X v hv=>?_).trans (lA ?_)
  ·by_cases hk':q=k
   ·subst hk';show VR w X (ρ.av (lk S.env _)) v;rw[hq'];exact aXq.2 (by rwa[fK] at hv)
   ·rwa[lJ _ _ hk'] at hv
  ·exact congrArg (St.mk _) e3
theorem cGw[Mode]{β:qT}{t kt et:TypeId}{A:Type}[DecidableEq A]{kv:A->Value}{a:A}{l:List (A×Value)}{x y:Operand}{h:Nat}{yv:AV}(h2:Nat)(hk:mX P kt kv)(ht:P.underlying t=some (.map kt et))(hz:∀w,(zeroValue et).run P w=.ok (.pointer none) w)(hy:uB kv yv a)
  (ha:cI a l=true)(hg:cE a (.pointer none) l=.pointer (some ⟨(β h2).1,(β h2).2.1,none⟩))(k:Kv ⟨(d,.tup [.bp h2 0 0,.b true])::S.env,S.objs⟩)(hb:Nat.ble 100000 h2=true:=by exact rfl)
  (hx:S.ev x=.d (.hv 1 h 0):=by exact rfl)(hm:ob S.objs h=some (.map false (l.map λp=>(kv p.1,[.lit p.2]))):=by exact rfl)(hok:(Nat.ble (d+1) n&&(cD y&&okA yv))=true:=by exact rfl)(hyv:S.ev y=yv:=by exact rfl):
  aKv P n β ⟨some d,.lookup t x y true,ty,pos,af,gd⟩ S Kv:=by
 intro ρ hρ;subst hρ;simp only[Bool.and_eq_true] at hok;obtain⟨i,h1,h3,_⟩:=sE (ρ:=ρ) hm;have hi:=(List.getElem?_eq_some_iff.1 h1).1;have hbb:ρ.bb h2=(ρ.β h2).1/\ρ.oo h2=(ρ.β h2).2.1:=by simp[Rho.bb,Rho.oo,hb]
 refine aUf (i:=i) h1 λbs ck h0=>?_;have e1:((l.map λp=>(kv p.1,[D.lit p.2])).map (elE false))=l.map λp=>(kv p.1,AV.d (.lit p.2)):=by rw[List.map_map];rfl
 rw[e1];have hyv':(S.at ρ).eval y=yv:=by rw[uF,hyv,aAi ρ hok.2.2]
 refine dJ (aIa (av:=λv=>AV.d (.lit v)) (z:=.pointer none) (a:=a) (l:=l) (m:=i) (r:=ρ.bb h) (bs:=bs) (clock:=ck) (Nat.le_of_ble_eq_true hok.1) hk ht hz (λ_ _=>.d (.lit _ rfl)) ?_ (List.getElem?_set_self hi) hok.2.1 (yv:=yv) ?_ hy) ?_
 ·exact(uF S x).trans (by rw[hx];rfl)
 ·exact hyv'
 ·rintro s rfl;refine⟨_,ρ,rfl,k,?_⟩;rw[ha,hg];rw[<-e1];refine(aRm (env:=(St.set (S.at ρ) d _).env) hi h0).trans ?_;have e2:(S.at ρ).objs.set i (mx (ρ.bb h) false (l.map λp=>(kv p.1,[D.lit p.2])))=(S.at ρ).objs:=bJq h1;refine Ent.trans (lA (congrArg (St.mk _) e2)) ?_;have e3:=qP (ρ:=ρ) S d (.tup [.bp h2 0 0,.b true]);refine Ent.trans ?_ (lA e3);refine bHh λk w X v hv=>?_;simp only[St.set] at hv|-
  by_cases hk':d=k
  ·subst hk';rw[fK] at hv|-;have e4:ρ.av (.tup [.bp h2 0 0,.b true])=.tup [.bp (ρ.bb h2) (ρ.oo h2) 0,.b true]:=rfl;rw[e4,hbb.1,hbb.2];cases hv with
   | tup hl hv=>
    refine .tup hl λi hi=>?_
    match i,hi with
    |0,hi=>exact aXq.2 (hv 0 (by simp))
    |1,hi=>exact hv 1 (by simp)
  ·rw[lJ _ _ hk'] at hv|-;exact hv
end
end Go.Am
end
section
namespace Go.Am
theorem aAr[Mode]{P:Program}{f:FuncId}{args:List AV}{objs:List MO}{Q:AV->List MO->Prop}(E:List MO)(h:bC P f args objs Q):bC P f args (objs++E) (λr o=>∃o',Q r o'/\o=o'++E):=by
 intro A w vs hinv hA hvs;have hsp:=List.pairwise_append.1 hinv.sep;have hlive:∀b o,aT A (objs++E) b o↔aT (aT A E) objs b o:=λb o=>rB b o;have hlt:∀b o,aT A E b o->b<w.heap.size:=by
  rintro b o (h|⟨m,hm,hf⟩)
  ·exact hA b o h
  ·exact nE (hinv.holds m (List.mem_append.2 (.inr hm))) hf
 have hmo:Mono w (aT A (objs++E)) w (aT (aT A E) objs):=Mono.sub λb o h=>(hlive b o).2 h;have hinv0:Inv w (aT A E) objs:=by
  refine⟨hsp.1,λm hm b o hf hx=>?_,λm hm=>bW (hinv.holds m (List.mem_append.2 (.inl hm))) (Keeps.refl (λ_ _=>False) w) (λ_ _ _ h=>h) hmo,hinv.amb.on hmo⟩
  rcases hx with hx|⟨m',hm',hf'⟩
  ·exact hinv.apart m (List.mem_append.2 (.inl hm)) b o hf hx
  ·exact hsp.2.2 m hm m' hm' b o hf hf'
 refine(h (aT A E) w vs hinv0 hlt (hvs.mono hmo)).mono ?_;rintro e w' ⟨v,r,objs',rfl,hk,hinv',hv,hnew,hq⟩;have hback:Mono w' (aT (aT A E) objs') w' (aT A (objs'++E)):=Mono.sub λb o h=>(rB b o).1 h;have hm:Mono w (aT A (objs++E)) w' (aT A (objs'++E)):=lO hk (λb o ⟨m,hm,hf⟩=>.inr ⟨m,List.mem_append.2 (.inl hm),hf⟩) λb o hb hx=>by
  rcases hx with hx|⟨m,hm,hf⟩
  ·exact .inl hx
  ·rcases List.mem_append.1 hm with hm|hm
   ·rcases hnew m hm b o hf with⟨m',hm',hf'⟩|h
    ·exact .inr ⟨m',List.mem_append.2 (.inl hm'),hf'⟩
    ·omega
   ·exact .inr ⟨m,List.mem_append.2 (.inr hm),hf⟩
 refine⟨v,r,objs'++E,rfl,hk.mono λb o ⟨m,hm,hf⟩=>⟨m,List.mem_append.2 (.inl hm),hf⟩,⟨?_,λm hm b o hf hx=>?_,λm hmm=>?_,hinv'.amb.on hback⟩,hv.mono hback,λm hm b o hf=>?_,objs',hq,rfl⟩
 ·exact List.pairwise_append.2 ⟨hinv'.sep,hsp.2.1,λx hx y hy b o h1 h2=>hinv'.apart x hx b o h1 (.inr ⟨y,hy,h2⟩)⟩
 ·rcases List.mem_append.1 hm with hm|hm
  ·exact hinv'.apart m hm b o hf (.inl hx)
  ·exact hinv.apart m (List.mem_append.2 (.inr hm)) b o hf hx
 ·rcases List.mem_append.1 hmm with h|h
  ·exact bW (hinv'.holds m h) (Keeps.refl (λ_ _=>False) w') (λ_ _ _ h=>h) hback
  ·exact bW (hinv.holds m (List.mem_append.2 (.inr h))) hk (λb o hf ⟨m',hm',hf'⟩=>hsp.2.2 m' hm' m h b o hf' hf) hm
 ·rcases List.mem_append.1 hm with hm|hm
  ·exact(hnew m hm b o hf).imp (λ⟨m',hm',hf'⟩=>⟨m',List.mem_append.2 (.inl hm'),hf'⟩) id
  ·exact .inl ⟨m,List.mem_append.2 (.inr hm),hf⟩
def Same[Mode](O1 O2:List MO):Prop:=fJ O1=fJ O2/\∀(w:World) (A:aS),Inv w A O1->Inv w A O2
theorem Same.trans[Mode]{a b c:List MO}(h:Same a b)(k:Same b c):Same a c:=⟨h.1.trans k.1,λw A hi=>k.2 w A (h.2 w A hi)⟩
theorem Same.refl[Mode](a:List MO):Same a a:=⟨rfl,λ_ _ h=>h⟩
theorem yS{A:aS}{a b:List MO}(h:fJ a=fJ b):aT A a=aT A b:=by
 funext x y
 simp only[aT,h]
theorem Same.perm[Mode]{a b:List MO}(h:a.Perm b):Same a b:=by
 have hf:fJ a=fJ b:=by
  funext x y
  exact propext ⟨λ⟨m,hm,hx⟩=>⟨m,h.mem_iff.1 hm,hx⟩,λ⟨m,hm,hx⟩=>⟨m,h.mem_iff.2 hm,hx⟩⟩
 refine⟨hf,λw A hi=>⟨?_,λm hm=>hi.apart m (h.mem_iff.2 hm),λm hm=>yS hf▸hi.holds m (h.mem_iff.2 hm),yS hf▸hi.amb⟩⟩;exact h.pairwise hi.sep λhxy b o h1 h2=>hxy b o h2 h1
theorem xC[Mode]{P:Program}{f:FuncId}{args:List AV}{O1 O2:List MO}{Q:AV->List MO->Prop}(hs:Same O1 O2)(h:bC P f args O2 Q):bC P f args O1 Q:=by
 intro A w vs hinv hA hvs;rw[yS hs.1] at hvs;rw[hs.1];exact h A w vs (hs.2 w A hinv) hA hvs
theorem xB[Mode]{P:Program}{f:FuncId}{args:List AV}{O:List MO}{Q Q':AV->List MO->Prop}(h:bC P f args O Q)(hq:∀r o,Q r o->∃o2,Same o o2/\Q' r o2):bC P f args O Q':=by
 intro A w vs hinv hA hvs;refine(h A w vs hinv hA hvs).mono ?_;rintro e w' ⟨v,r,o,rfl,hk,hi,hv,hnew,hq'⟩;obtain⟨o2,hs,h2⟩:=hq r o hq';refine⟨v,r,o2,rfl,hk,hs.2 _ _ hi,yS hs.1▸hv,λm hm b o hf=>?_,h2⟩;have:fJ o2 b o:=⟨m,hm,hf⟩;rw[<-hs.1] at this;obtain⟨m',hm',hf'⟩:=this;exact hnew m' hm' b o hf'
def bx(p:(Nat×Nat)×List D):MO:=.box p.1.1 p.1.2 p.2
def cGp(w:World)(X:aS)(p:(Nat×Nat)×List D):Prop:=∃vs,DRs w X p.2 vs/\cellsAt w p.1.1 p.1.2 vs/\∀j,j<p.2.length->w.frozen? ⟨p.1.1,p.1.2+j,none⟩=false
def ns(L:List ((Nat×Nat)×List D)):MO:=.ext (fJ (L.map bx)) λw X=>Sep (L.map bx)/\∀p∈L,cGp w X p
theorem aMf{L:List ((Nat×Nat)×List D)}{O:List MO}:fJ (ns L::O)=fJ (L.map bx++O):=by
 funext b o
 refine propext ⟨?_,λh=>?_⟩
 ·rintro⟨m,hm,hf⟩
  rcases List.mem_cons.1 hm with rfl|hm
  ·exact kM.2 (.inl hf)
  ·exact kM.2 (.inr ⟨m,hm,hf⟩)
 ·rcases kM.1 h with h|⟨m,hm,hf⟩
  ·exact⟨ns L,List.mem_cons_self,h⟩
  ·exact⟨m,List.mem_cons_of_mem _ hm,hf⟩
theorem cBi[Mode](L:List ((Nat×Nat)×List D))(O:List MO):Same (ns L::O) (L.map bx++O):=by
 refine⟨aMf,λw A hi=>?_⟩;obtain⟨hnd,hbox⟩:=(hi.holds _ List.mem_cons_self).2 w _ (Mono.refl _ _) (Keeps.refl _ _);have hsp:=List.pairwise_cons.1 hi.sep;have hin:∀{m},m∈L.map bx->∀b o,m.foot b o->(ns L).foot b o:=λhm b o hf=>⟨_,hm,hf⟩;refine⟨List.pairwise_append.2 ⟨hnd,hsp.2,λx hx y hy b o h1 h2=>hsp.1 y hy b o (hin hx b o h1) h2⟩,λm hm b o hf hx=>?_,λm hm=>?_,yS (aMf (L:=L) (O:=O))▸hi.amb⟩
 ·rcases List.mem_append.1 hm with hm|hm
  ·exact hi.apart _ List.mem_cons_self b o (hin hm b o hf) hx
  ·exact hi.apart m (List.mem_cons_of_mem _ hm) b o hf hx
 ·rw[<-yS (aMf (L:=L) (O:=O))]
  rcases List.mem_append.1 hm with hm|hm
  ·obtain⟨p,hp,rfl⟩:=List.mem_map.1 hm;exact hbox p hp
  ·exact hi.holds m (List.mem_cons_of_mem _ hm)
theorem bWx[Mode](L:List ((Nat×Nat)×List D))(O:List MO):Same (L.map bx++O) (ns L::O):=by
 refine⟨aMf.symm,λw A hi=>?_⟩;have hsp:=List.pairwise_append.1 hi.sep;have hl:=yS (A:=A) (aMf (L:=L) (O:=O));have hb:∀p∈L,(bx p).holds w (aT A (L.map bx++O)):=λp hp=>hi.holds _ (List.mem_append.2 (.inl (List.mem_map.2 ⟨p,hp,rfl⟩)));refine⟨List.pairwise_cons.2 ⟨?_,hsp.2.1⟩,λm hm b o hf hx=>?_,λm hm=>?_,hl▸hi.amb⟩
 ·rintro y hy b o ⟨m,hm,h1⟩ h2;exact hsp.2.2 m hm y hy b o h1 h2
 ·rcases List.mem_cons.1 hm with rfl|hm
  ·obtain⟨m,hm,hf⟩:=hf;exact hi.apart m (List.mem_append.2 (.inl hm)) b o hf hx
  ·exact hi.apart m (List.mem_append.2 (.inr hm)) b o hf hx
 ·rw[hl]
  rcases List.mem_cons.1 hm with rfl|hm
  ·refine⟨?_,λw' X' hm hk=>⟨hsp.1,λp hp=>?_⟩⟩
   ·rintro b o ⟨m,hm,hf⟩;obtain⟨p,hp,rfl⟩:=List.mem_map.1 hm;exact nE (hb p hp) hf
   ·exact bW (m:=bx p) (hb p hp) hk (λb o hf hz=>hz ⟨bx p,List.mem_map.2 ⟨p,hp,rfl⟩,hf⟩) hm
  ·exact hi.holds m (List.mem_append.2 (.inr hm))
end Go.Am
end
