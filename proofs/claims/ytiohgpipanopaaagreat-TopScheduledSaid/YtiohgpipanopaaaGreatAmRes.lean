/- The program logic 'Am': results that lie in cells. -/
import Derived.Test.YtiohgpipanopaaaGreatAmDraw2
import Derived.Scope
import Derived.Lib.SliceRun
namespace Go.Am
theorem aWt{P:Program}{t:TypeId}{m:Nat}(ht:kL P t m){w:World}{b o:Nat}{vs:List Value}(hl:vs.length=m)(h:cellsAt w b o vs):
  (loadVar t ⟨b,o,none⟩).run P w=.ok (.agg vs.toArray) w:=by
 subst hl;have:=run_loadCells_list (P:=P) w ⟨b,o,none⟩ vs λj v hj=>by rw[Addr.add_lit];exact h j v hj
 simp[loadVar,ht.1,ht.2,this]
inductive RVc(P:Program)(st:St):ResultVar->AV->Prop where
 |tmp (t:Nat) {v:AV} (h:st.env t=v):RVc P st (.tmp t) v
 |cell (a:Nat) (t:TypeId) {b o j i m:Nat} {ds es:List D} (ha:st.env a=.bp b o j) (ho:st.objs[i]?=some (.box b o ds)) (ht:kL P t m) (he:(ds.drop j).take m=es) (hl:es.length=m):RVc P st (.cell a t) (.agg es)
 |cell1 (a:Nat) (t:TypeId) {b o j i:Nat} {ds:List D} {d0:D} (ha:st.env a=.bp b o j) (ho:st.objs[i]?=some (.box b o ds)) (ht:iF P t) (he:ds[j]?=some d0):RVc P st (.cell a t) (.d d0)
def aGd(tmps:Array Value):ResultVar->Sem Value
 | .tmp t=>pure (tmps.getD t undef)
 | .cell a t=>do loadVar t (<-asAddr (tmps.getD a undef))
theorem RVc.run{P:Program}{st:St}{x:ResultVar}{r:AV}(h:RVc P st x r){A M:bH}{w0:W0}{n:Nat}{a:Act}{w:World}(hR:R A M w0 n st a w):
  ∃v,(aGd a.tmps x).run P w=.ok v w/\VR w (bF A st.objs) r v:=by
 cases h with
 |tmp t h=>exact⟨_,rfl,h▸hR.env t⟩
 | @cell p t b o j i m ds es ha ho ht he hl=>
  have h:=hR.env p;rw[ha] at h
  generalize hu:a.tmps.getD p undef=u at h
  obtain⟨vs,hds,hc,_⟩:=hR.inv.holds _ (List.mem_of_getElem? ho);have hdt:=(hds.drop j).take m;cases h with
  | bp=>
   subst he;refine⟨.agg ((vs.drop j).take m).toArray,?_,.agg (by simpa using hdt)⟩
   simp[aGd,hu,asAddr,aWt ht (vs:=(vs.drop j).take m) (by rw[hdt.length,hl]) ((hc.drop j).take m)]
 | @cell1 p t b o j i ds d0 ha ho ht he=>
  have h:=hR.env p;rw[ha] at h
  generalize hu:a.tmps.getD p undef=u at h
  obtain⟨vs,hds,hc,_⟩:=hR.inv.holds _ (List.mem_of_getElem? ho);obtain⟨v,hv,hdv⟩:=hds.get he;cases h with
  | bp=>
   refine⟨v,?_,.d hdv⟩;have hcell:=hc j v hv
   simp[aGd,hu,asAddr,loadVar,ht.1,hcell]
inductive aCm(P:Program)(st:St):List ResultVar->AV->Prop where
 |one {x:ResultVar} {r:AV} (h:RVc P st x r):aCm P st [x] r
 |two {x y:ResultVar} {r s:AV} (h:RVc P st x r) (h2:RVc P st y s):aCm P st [x,y] (.tup [r,s])
 |three {x y z:ResultVar} {r s t:AV} (h:RVc P st x r) (h2:RVc P st y s) (h3:RVc P st z t):aCm P st [x,y,z] (.tup [r,s,t])
 |none:aCm P st [] (.tup [])
theorem aDo(fn:Func)(tmps:Array Value):results fn tmps=(do
  let vs<-fn.results.mapM (aGd tmps)
  pure (if h:vs.size=1 then vs[0] else .tuple vs)):=by
 unfold results;have:(λx:ResultVar=>aGd tmps x)=aGd tmps:=rfl
 congr 1
theorem aNr{fn:Func}{rs:List ResultVar}(hr:fn.results=rs.toArray){P:Program}{st:St}{r:AV}(h:aCm P st rs r){A M:bH}{w0:W0}{n:Nat}{a:Act}{w:World}(hR:R A M w0 n st a w):
  ∃v,(results fn a.tmps).run P w=.ok v w/\VR w (bF A st.objs) r v:=by
 cases h with
 | one h=>
  obtain⟨v,h1,h2⟩:=h.run hR;refine⟨v,?_,h2⟩;rw[aDo,hr]
  simp[h1]
 | two h k=>
  obtain⟨v,h1,h2⟩:=h.run hR;obtain⟨u,k1,k2⟩:=k.run hR;refine⟨.tuple #[v,u],?_,.tup (us:=[_,_]) rfl λi hi=>by
    match i,hi with
    |0,_=>exact h2
    |1,_=>exact k2⟩
  rw[aDo,hr]
  simp[h1,k1]
 | three h k l=>
  obtain⟨v,h1,h2⟩:=h.run hR;obtain⟨u,k1,k2⟩:=k.run hR;obtain⟨x,l1,l2⟩:=l.run hR;refine⟨.tuple #[v,u,x],?_,.tup (us:=[_,_,_]) rfl λi hi=>by
    match i,hi with
    |0,_=>exact h2
    |1,_=>exact k2
    |2,_=>exact l2⟩
  rw[aDo,hr]
  simp[h1,k1,l1]
 | none=>
  refine⟨.tuple #[],?_,.tup (us:=[]) rfl λi hi=>by simp at hi⟩;rw[aDo,hr]
  simp
theorem kF{P:Program}{f:FuncId}{fn:Func}{c:Code}{args:List AV}{objs:List MO}{Q:AV->List MO->Prop}(hf:P.funcs[f]?=some fn)(hb:fn.body=some c){rs:List ResultVar}(hr:fn.results=rs.toArray){n:Nat}(hn:fn.ntmps=n)(ha:args.length<=n)
  (h:Tr P n c ⟨entry args,objs⟩ (λe st=>e=.ret/\∃r0 objs' gone r,aCm P st rs r0/\st.objs.Perm (objs'++gone)/\BV gone r0 r/\Q r objs')):dX P f args objs Q:=by
 subst hn;intro A w vs hinv hA hvs;refine aJe hf hb ha h hinv hA hvs (λe st hq=>.inl hq.1) ?_;rintro e st a' w' ⟨rfl,r0,objs',gone,r,hres,hp,hbv,hq⟩ hR';obtain⟨v,hrun,hv⟩:=aNr hr hres hR';have hR1:R A (fC objs) ⟨w,[],none⟩ 1 ⟨upd emp 0 r0,st.objs⟩ {tmps:= #[v],defers:=[]} w':=by
  refine⟨rfl,Marks.nil _ ⟨w,[],none⟩ _,λk=>?_,hR'.inv,hR'.keeps,hR'.own,hR'.old⟩;show VR _ _ (upd emp 0 r0 k) _
  by_cases hk:0=k
  ·subst hk;rw[lK];exact hv
  ·rw[uH _ _ hk];exact .any _
 have hR2:=oS (env':=upd emp 0 r) hp (λk=>by
  by_cases hk:0=k
  ·subst hk;rw[lK,lK];exact hbv
  ·rw[uH _ _ hk,uH _ _ hk];exact .any _) A (fC objs) ⟨w,[],none⟩ 1 _ w' hR1
 have hv2:VR w' (bF A objs') (upd emp 0 r 0) v:=hR2.env 0;rw[lK] at hv2;exact⟨v,hrun,v,r,objs',rfl,hR2.keeps,hR2.inv,hv2,hR2.own,hq⟩
theorem vI{P:Program}{f:FuncId}{fn:Func}{c:Code}{args:List AV}{objs objs':List MO}{r:AV}(hf:P.funcs[f]?=some fn)(hb:fn.body=some c){rs:List ResultVar}(hr:fn.results=rs.toArray){n:Nat}(hn:fn.ntmps=n)(ha:args.length<=n)
  (h:Tr P n c ⟨entry args,objs⟩ (λe st=>e=.ret/\∃r0 gone,aCm P st rs r0/\st.objs.Perm (objs'++gone)/\BV gone r0 r)):dX P f args objs (λr' o=>r'=r/\o=objs'):=
 kF hf hb hr hn ha (pY h λe st ⟨h1,r0,gone,h2,h3,h4⟩=>⟨h1,r0,objs',gone,r,h2,h3,h4,rfl,rfl⟩)
theorem aBf(e k:Nat){env:Nat->AV}{objs:List MO}:Ent ⟨env,objs⟩ ⟨env,objs++[.arr (.slice none 0 0) e k []]⟩:=by
 intro A M w0 n a w hR;exact hR.add (w':=w) (m:=.arr (.slice none 0 0) e k []) (Keeps.refl _ _) (λb o hf=>by simp[MO.foot,Value.ownBlock] at hf)
  (λhm=>⟨[],trivial,⟨by simp,.inl ⟨rfl,rfl⟩⟩,by simp⟩)
section
variable{P:Program}{n d:Nat}{st:St}{o:Oper}
theorem bSw{c:Callee}{l:List Operand}{f:FuncId}{args args':List AV}{r:AV}{ts:Array TypeId}{ty:TypeId}{pos:String}{af:Array Edge}{gd:Option (Nat×Bool)}(hd:d<n)
  {a0:List AV}(hc:rY P st c l f a0)(ha:a0=args)(hok:mW l=true)(hb:BVs [] args args')(hf:Fn P f args' r):
  bB P n ⟨some d,.call {callee:=c,args:=l.toArray,argTypes:=ts},ty,pos,af,gd⟩ st (st.set d r):=by
 refine nH hd hc ha hok ?_;intro A w vs hinv hA hvs;exact hf A w vs hinv hA (hb.sound (λm hm=>by simp at hm) (λ_ _ h=>h) (λm hm=>by simp at hm) hvs)
theorem bFy{x y:AV}(hw:BV [] x y)(h:bB P n o st (st.set d x)):bB P n o st (st.set d y):=by
 intro A M w0 a w hR K Q hK;refine h A M w0 a w hR K Q ?_;rintro s a' w' rfl hR';refine hK _ _ _ rfl ?_;have:=oS (env:=upd st.env d x) (env':=upd st.env d y) (objs:=st.objs) (keepers:=st.objs) (gone:=[]) (by simp) (λk=>by
  by_cases hk:d=k
  ·subst hk;rw[lK,lK];exact hw
  ·rw[uH _ _ hk,uH _ _ hk];exact .same _)
 exact this A M w0 n a' w' hR'
end
theorem aGj(fs:List MO)(e:Nat->AV):BLe fs e e:=λ_=>.same _
theorem bId{env env':Nat->AV}{objs:List MO}(keepers gone:List MO)(ho:objs=keepers++gone)(h:BLe gone env env'):Ent ⟨env,objs⟩ ⟨env',keepers⟩:=oS (ho▸List.Perm.refl _) h
theorem aZc{P:Program}{n:Nat}{ops:Array Oper}{l:List Oper}{Q:Exit->St->Prop}{env env':Nat->AV}{objs:List MO}(keepers gone:List MO)(ho:objs=keepers++gone)(h:BLe gone env env')(k:TrL P n ops l ⟨env',keepers⟩ Q):TrL P n ops l ⟨env,objs⟩ Q:=gW (bId keepers gone ho h) k
theorem bVi{v:Value}{e k:Nat}{rows:List (List D)}(hk:∀r∈rows,r.length=k):DV [.arr v e k rows] (.lit v) (.sl k rows):=
 .arr v e k rows rows (by simp) rfl hk λ_ _ _ _=>.same _
section
variable{P:Program}{n d:Nat}{st:St}
end
def aJs(Q:Exit->St->Prop):Prop:=∀l s,¬Q (.goto l) s
theorem bVz{N:St->Prop}{Q:Exit->St->Prop}(h:aJs Q):aJs (jO N Q):=λl s hq=>h l s hq
theorem bSk{id:Nat}{N:St->Prop}{Q:Exit->St->Prop}(h:aJs Q):aJs (xA id N Q):=λl s hq=>h l s hq
theorem bYl{p:St->Prop}:aJs (λe s=>e=.ret/\p s):=λl s hq=>by cases hq.1
theorem bHv{P:Program}{b:Frame}{a:Act}{k:List Item}{cs:List Frame}{w:World}{c:Code}:step P (lone (b.atR a (.code (.scope c)::k)) cs w)=.next (lone (b.atR a (.code c:: .inScope c::k)) cs w):=
 step_lone_go (by simp[stepG,stepG.exec,Frame.atR])
theorem bBw{P:Program}{b:Frame}{a:Act}{k:List Item}{cs:List Frame}{w:World}{c:Code}:step P (lone (b.atR a (.inScope c::k)) cs w)=.next (lone (b.atR a k) cs w):=
 step_lone_go (by simp[stepG,stepG.exec,Frame.atR])
theorem aOa{F:Fence}{n:Nat}{P:Program}{a:Act}{w:World}{Q:Exit->Act->World->Prop}{c:Code}(h:c.wpIn F n P (Exit.noGoto Q) a w):(Code.scope c).wpIn F n P Q a w:=by
 intro b k cs hro hb hr;obtain⟨e,a₁,w₁,hq,harr⟩:=h b (.inScope c::k) cs hro hb hr;have s0:StepsIn (Machine.fenced P F) P (lone (b.atR a (.code (.scope c)::k)) cs w) (lone (b.atR a (.code c:: .inScope c::k)) cs w):=.one (fenced_calm (fr:=b.atR a (.code (.scope c)::k)) hb hr rfl) bHv;have harr:=ArrivesIn.of_steps s0 harr;cases e with
 |normal=>exact⟨.normal,a₁,w₁,hq,StepsIn.trans harr (.one (fenced_calm (fr:=b.atR a₁ (.inScope c::k)) hb hr rfl) bBw)⟩
 |goto l=>exact hq.elim
 |exit id=>exact⟨.exit id,a₁,w₁,hq,λk' hk=>harr.1 k' (by simp[exitTo,hk]),λhr hk=>harr.2 hr (by simp[exitTo,hk])⟩
 |ret=>exact⟨.ret,a₁,w₁,hq,harr⟩
 |panic ch=>exact⟨.panic ch,a₁,w₁,hq,harr⟩
 |outgrown=>exact⟨.outgrown,a₁,w₁,hq,harr⟩
theorem bGk{P:Program}{n:Nat}{st:St}{c:Code}{Q:Exit->St->Prop}(hg:aJs Q)(h:Tr P n c st Q):Tr P n (.scope c) st Q:=by
 intro A M w0 a w hR hn;refine aOa (wpIn_mono (h A M w0 a w hR hn) ?_);rintro e a' w' ⟨st',hq,hR'⟩;cases e with
 |goto l=>exact absurd hq (hg l st')
 |_=>exact⟨st',hq,hR'⟩
def fN{α:Type}(k:Nat)(f:α->List D):Option (List α)->D
 |none=>.lit (.slice none 0 0)
 |some xs=>.sn k (xs.map f)
theorem bXw{fs:List MO}{α:Type}{k:Nat}{f:α->List D}(e:Option (List α)):DV fs (fN k f e) (.sl k ((e.getD []).map f)):=by
 cases e with
 |none=>exact .nil k
 |some xs=>exact .weak k _
section
variable{P:Program}{n d:Nat}{st:St}
theorem bJb{α:Type}{k:Nat}{f:α->List D}{e:Option (List α)}{x:Operand}{t u el ty:TypeId}{pos:String}{af:Array Edge}{gd:Option (Nat×Bool)}(hd:d<n)
  (hx:st.eval x=.d (fN k f e))(ht:P.underlying t=some (.slice el)):
  bB P n ⟨some d,.binOp .eql t x (.const (.slice none 0 0)) u,ty,pos,af,gd⟩ st (st.set d (.b e.isNone)):=
 kX rfl hd rfl λA M w0 a w hR=>by
  have hk:cT x=true:=by
   cases x with
   | const v=>
    cases e with
    |none=>simp only[St.eval,fN,AV.d.injEq,D.lit.injEq] at hx;subst hx;rfl
    |some xs=>cases hx
   |_=>rfl
  have h:=hR.eval' hk;rw[hx] at h
  generalize hu:a.eval x=v at h
  cases h with
  | d h=>
   cases e with
   | none=>
    cases h with
    | lit _ _=>
     have hb:=Lib.run_eql_slice_nil (P:=P) w t el none 0 0 0 0 ht;have hg:eqGuard .eql t x (.const (.slice none 0 0)) (.slice none 0 0) (.slice none 0 0)=pure ():=rfl;have hc:a.eval (.const (.slice none 0 0))=.slice none 0 0:=rfl;simp only[execOp,hu,hc,Sem.run_bind,Sem.run_pure,hg,hb,Result.andThen_ok]
     rfl
   | some xs=>
    have key:∀(ad:Addr) (m cap:Nat),v=.slice (some ad) m cap->(execOp a.eval ⟨some d,.binOp .eql t x (.const (.slice none 0 0)) u,ty,pos,af,gd⟩).run P w=.ok (.value (.bool false)) w:=by
     rintro ad m cap rfl;have hb:=Lib.run_eql_slice_nil (P:=P) w t el (some ad) m cap 0 0 ht;have hg:eqGuard .eql t x (.const (.slice none 0 0)) (.slice (some ad) m cap) (.slice none 0 0)=pure ():=rfl;have hc:a.eval (.const (.slice none 0 0))=.slice none 0 0:=rfl;simp only[execOp,hu,hc,Sem.run_bind,Sem.run_pure,hg,hb,Result.andThen_ok]
     rfl
    have h2:DR w (bF A st.objs) (D.sn k (xs.map f)) v:=h
    generalize hd':D.sn k (xs.map f)=dd at h2
    cases h2 with
    |e1 _ a=>exact key _ _ _ rfl
    |sn _ _ b o cap f'=>exact key _ _ _ rfl
    |_=>cases hd'
end
end Go.Am
