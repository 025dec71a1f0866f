/- The program logic 'Am': a rule for each operation that leaves memory as it is. -/
import Derived.Test.YtiohgpipanopaaaGreatAmTr
namespace Go.Am
abbrev AV.i(n:Int):AV:=.d (.lit (.int .i64 n))
abbrev AV.b(b:Bool):AV:=.d (.lit (.bool b))
abbrev D.i(n:Int):D:=.lit (.int .i64 n)
abbrev D.b(b:Bool):D:=.lit (.bool b)
abbrev w64(n:Int):Int:=IntKind.i64.wrap n
theorem VR.of_lit{w:World}{X:bH}{v:Value}(h:v.oneCell'=true):VR w X (.d (.lit v)) v:=.d (.lit v h)
section
variable{P:Program}{n d:Nat}{st:St}{o:Oper}
theorem kX{v:Value}(ho:o.dst=some d)(hd:d<n)(hv:v.oneCell'=true)
  (h:∀(A M:bH) (w0:W0) (a:Act) (w:World),R A M w0 n st a w->(execOp a.eval o).run P w=.ok (.value v) w):bB P n o st (st.set d (.d (.lit v))):=
 cO ho hd λA M w0 a w hR=>⟨v,h A M w0 a w hR,.of_lit hv⟩
theorem R.lit{A M:bH}{w0:W0}{a:Act}{w:World}(h:R A M w0 n st a w){x:Operand}{v:Value}(hx:st.eval x=.d (.lit v)):a.eval x=v:=by
 cases x with
 |tmp t=>have:=h.env t;rw[show st.env t=_ from hx] at this;exact this.lit
 |const u=>simp only[St.eval,AV.d.injEq,D.lit.injEq] at hx;exact hx
 |global g=>cases hx
 |func f=>cases hx
theorem aKr{x:Operand}{v:AV}{ty:TypeId}{pos:String}{af:Array Edge}{gd:Option (Nat×Bool)}(hd:d<n)(hx:st.eval x=v)(hk:cT x=true):bB P n ⟨some d,.move x,ty,pos,af,gd⟩ st (st.set d v):=
 cO rfl hd λ_ _ _ _ _ hR=>⟨_,rfl,hx▸hR.eval' hk⟩
theorem aHs{x:Operand}{v:AV}{ty:TypeId}{pos:String}{af:Array Edge}{gd:Option (Nat×Bool)}(hd:d<n)(hx:st.eval x=v)(hk:cT x=true):bB P n ⟨some d,.assign x,ty,pos,af,gd⟩ st (st.set d v):=
 cO rfl hd λ_ _ _ _ _ hR=>⟨_,rfl,hx▸hR.eval' hk⟩
theorem aFu(k:Nat){ty:TypeId}{pos:String}{af:Array Edge}{gd:Option (Nat×Bool)}(hd:d<n):bB P n ⟨some d,.assign (.const (.slice none 0 0)),ty,pos,af,gd⟩ st (st.set d (.d (.sl k []))):=
 cO rfl hd λ_ _ _ _ _ _=>⟨_,rfl,.d (.nil k)⟩
theorem bYz(k:Nat){ty:TypeId}{pos:String}{af:Array Edge}{gd:Option (Nat×Bool)}(hd:d<n):bB P n ⟨some d,.move (.const (.slice none 0 0)),ty,pos,af,gd⟩ st (st.set d (.d (.sl k []))):=
 cO rfl hd λ_ _ _ _ _ _=>⟨_,rfl,.d (.nil k)⟩
theorem aUa{c x y:Operand}{b:Bool}{v:AV}{ty:TypeId}{pos:String}{af:Array Edge}{gd:Option (Nat×Bool)}(hd:d<n)(hc:st.eval c=.d (.lit (.bool b)))(hb:b=true)(hx:st.eval x=v)(hk:cT x=true):
  bB P n ⟨some d,.pick c x y,ty,pos,af,gd⟩ st (st.set d v):=
 cO rfl hd λA M w0 a w hR=>⟨_,by simp[execOp,hR.lit hc,asBool,hb],hx▸hR.eval' hk⟩
theorem aTz{c x y:Operand}{b:Bool}{v:AV}{ty:TypeId}{pos:String}{af:Array Edge}{gd:Option (Nat×Bool)}(hd:d<n)(hc:st.eval c=.d (.lit (.bool b)))(hb:b=false)(hx:st.eval y=v)(hk:cT y=true):
  bB P n ⟨some d,.pick c x y,ty,pos,af,gd⟩ st (st.set d v):=
 cO rfl hd λA M w0 a w hR=>⟨_,by simp[execOp,hR.lit hc,asBool,hb],hx▸hR.eval' hk⟩
def aUn:BinOp->Int->Int->Option Int
 | .add,x,y=>some (x+y)
 | .sub,x,y=>some (x-y)
 | .mul,x,y=>some (x*y)
 |_,_,_=>none
def cmp:BinOp->Int->Int->Option Bool
 | .lss,x,y=>some (decide (x<y))
 | .leq,x,y=>some (decide (x<=y))
 | .gtr,x,y=>some (decide (y<x))
 | .geq,x,y=>some (decide (y<=x))
 | .eql,x,y=>some (decide (x=y))
 | .neq,x,y=>some (!decide (x=y))
 |_,_,_=>none
theorem aDc{op:BinOp}{x y:Operand}{k:IntKind}{p q r:Int}{t u ty:TypeId}{pos:String}{af:Array Edge}{gd:Option (Nat×Bool)}(hd:d<n)
  (hx:st.eval x=.d (.lit (.int k p)))(hy:st.eval y=.d (.lit (.int k q)))(hr:aUn op p q=some r):
  bB P n ⟨some d,.binOp op t x y u,ty,pos,af,gd⟩ st (st.set d (.d (.lit (.int k (k.wrap r))))):=
 kX rfl hd rfl λA M w0 a w hR=>by
  cases op<;>simp only[aUn,Option.some.injEq,reduceCtorEq] at hr<;>
   (subst hr;simp[execOp,hR.lit hx,hR.lit hy,eqGuard,binOp,Op.intArith])
theorem aFp{op:BinOp}{x y:Operand}{k:IntKind}{p q:Int}{r:Bool}{t u ty:TypeId}{pos:String}{af:Array Edge}{gd:Option (Nat×Bool)}(hd:d<n)
  (hx:st.eval x=.d (.lit (.int k p)))(hy:st.eval y=.d (.lit (.int k q)))(hr:cmp op p q=some r):
  bB P n ⟨some d,.binOp op t x y u,ty,pos,af,gd⟩ st (st.set d (.b r)):=
 kX rfl hd rfl λA M w0 a w hR=>by
  cases op<;>simp only[cmp,Option.some.injEq,reduceCtorEq] at hr<;>
   (subst hr;simp[execOp,hR.lit hx,hR.lit hy,eqGuard,binOp,Op.intCmp])<;>rfl
theorem bCc{x:Operand}{b:Bool}{t ty:TypeId}{pos:String}{af:Array Edge}{gd:Option (Nat×Bool)}(hd:d<n)
  (hx:st.eval x=.d (.lit (.bool b))):bB P n ⟨some d,.unOp .not t x,ty,pos,af,gd⟩ st (st.set d (.b (!b))):=
 kX rfl hd rfl λA M w0 a w hR=>by simp[execOp,hR.lit hx,Op.unary]
theorem cAh{x:Operand}{k:IntKind}{p:Int}{t ty:TypeId}{pos:String}{af:Array Edge}{gd:Option (Nat×Bool)}(hd:d<n)
  (hx:st.eval x=.d (.lit (.int k p))):bB P n ⟨some d,.unOp .neg t x,ty,pos,af,gd⟩ st (st.set d (.d (.lit (.int k (k.wrap (-p)))))):=
 kX rfl hd rfl λA M w0 a w hR=>by simp[execOp,hR.lit hx,Op.unary,Op.intArith]
theorem aKq{op:BinOp}{x y:Operand}{k:IntKind}{p q:Int}{t u ty:TypeId}{pos:String}{af:Array Edge}{gd:Option (Nat×Bool)}{f:BitVec k.bits->BitVec k.bits->BitVec k.bits}(hd:d<n)
  (hx:st.eval x=.d (.lit (.int k p)))(hy:st.eval y=.d (.lit (.int k q)))
  (hop:op=.and/\f=(·&&&·)\/op=.or/\f=(·|||·)\/op=.xor/\f=(·^^^·)):
  bB P n ⟨some d,.binOp op t x y u,ty,pos,af,gd⟩ st (st.set d (.d (.lit (.int k (k.wrap (f (BitVec.ofInt k.bits p) (BitVec.ofInt k.bits q)).toNat))))):=
 kX rfl hd rfl λA M w0 a w hR=>by
  rcases hop with⟨rfl,rfl⟩|⟨rfl,rfl⟩|⟨rfl,rfl⟩<;>simp[execOp,hR.lit hx,hR.lit hy,eqGuard,binOp,Op.intBits]
theorem cAi{x y:Operand}{k:IntKind}{p q:Int}{t u ty:TypeId}{pos:String}{af:Array Edge}{gd:Option (Nat×Bool)}(hd:d<n)
  (hx:st.eval x=.d (.lit (.int k p)))(hy:st.eval y=.d (.lit (.int k q)))(hq:q≠0):
  bB P n ⟨some d,.binOp .quo t x y u,ty,pos,af,gd⟩ st (st.set d (.d (.lit (.int k (k.wrap (p.tdiv q)))))):=
 kX rfl hd rfl λA M w0 a w hR=>by simp[execOp,hR.lit hx,hR.lit hy,eqGuard,binOp,Op.intDiv,hq]
theorem aWx{x y:Operand}{k:IntKind}{p q:Int}{t u ty:TypeId}{pos:String}{af:Array Edge}{gd:Option (Nat×Bool)}(hd:d<n)
  (hx:st.eval x=.d (.lit (.int k p)))(hy:st.eval y=.d (.lit (.int k q)))(hq:q≠0):
  bB P n ⟨some d,.binOp .rem t x y u,ty,pos,af,gd⟩ st (st.set d (.d (.lit (.int k (p.tmod q))))):=
 kX rfl hd rfl λA M w0 a w hR=>by simp[execOp,hR.lit hx,hR.lit hy,eqGuard,binOp,Op.intDiv,hq]
theorem aWy{x y:Operand}{k k':IntKind}{p q:Int}{t u ty:TypeId}{pos:String}{af:Array Edge}{gd:Option (Nat×Bool)}(hd:d<n)
  (hx:st.eval x=.d (.lit (.int k p)))(hy:st.eval y=.d (.lit (.int k' q)))(hq:0<=q):
  bB P n ⟨some d,.binOp .shl t x y u,ty,pos,af,gd⟩ st (st.set d (.d (.lit (.int k (k.wrap (p*2^(min q.toNat k.bits))))))):=
 kX rfl hd rfl λA M w0 a w hR=>by simp[execOp,hR.lit hx,hR.lit hy,eqGuard,binOp,Op.shift,show¬q<0 by omega]
theorem bCd{x y:Operand}{k k':IntKind}{p q:Int}{t u ty:TypeId}{pos:String}{af:Array Edge}{gd:Option (Nat×Bool)}(hd:d<n)
  (hx:st.eval x=.d (.lit (.int k p)))(hy:st.eval y=.d (.lit (.int k' q)))(hq:0<=q):
  bB P n ⟨some d,.binOp .shr t x y u,ty,pos,af,gd⟩ st (st.set d (.d (.lit (.int k (p.fdiv (2^(min q.toNat k.bits))))))):=
 kX rfl hd rfl λA M w0 a w hR=>by simp[execOp,hR.lit hx,hR.lit hy,eqGuard,binOp,Op.shift,show¬q<0 by omega]
theorem aIv{x:Operand}{vs:List AV}{i:Nat}{v:AV}{ty:TypeId}{pos:String}{af:Array Edge}{gd:Option (Nat×Bool)}(hd:d<n)
  (hx:st.eval x=.tup vs)(hv:vs[i]?=some v):bB P n ⟨some d,.extract x i,ty,pos,af,gd⟩ st (st.set d v):=
 cO rfl hd λA M w0 a w hR=>by
  have hk:cT x=true:=by cases x with|const u=>cases hx|_=>rfl
  have h:=hR.eval' hk;rw[hx] at h
  generalize hu:a.eval x=u at h
  cases h with
  | tup hl h'=>
   rename_i us
   have hi:i<vs.length:=(List.getElem?_eq_some_iff.1 hv).1;have h1:=h' i hi;have hi':i<us.length:=by omega
   simp only[List.getD,hv,Option.getD_some,List.getElem?_eq_getElem hi'] at h1;refine⟨_,?_,h1⟩
   simp[execOp,hu,Instr.extract,hi']
def cK(P:Program)(s:TypeId)(f off:Nat):Prop:=
 ∀(b o:Nat) (w:World),(Instr.fieldAt s (.pointer (some ⟨b,o,none⟩)) f).run P w=.ok (.pointer (some ⟨b,o+off,none⟩)) w
def kL(P:Program)(t:TypeId)(n:Nat):Prop:=(∀w,(isAgg t).run P w=.ok true w)/\∀w,(sizeOf t).run P w=.ok n w
def iF(P:Program)(t:TypeId):Prop:=(∀w,(isAgg t).run P w=.ok false w)/\∀w,(sizeOf t).run P w=.ok 1 w
def gU(P:Program)(t e k:Nat):Prop:=(∀w,(underlying t).run P w=.ok (.slice e) w)/\∀w,(sizeOf e).run P w=.ok k w
def aUf(P:Program)(t len e k:Nat):Prop:=(∀w,(underlying t).run P w=.ok (.array len e) w)/\∀w,(sizeOf e).run P w=.ok k w
theorem cE{s f off m:Nat}{fs:Array Field}{fd:Field}(hs:∀w,(underlying s).run P w=.ok (.struct fs) w)(hf:fs[f]?=some fd)(ho:fd.offset=off)
  (hz:∀w,(sizeOf fd.type).run P w=.ok (m+1) w):cK P s f off:=by
 intro b o w;subst ho
 simp[Instr.fieldAt,hs,hf,Instr.sureAddr,fieldPlace,hz,Addr.add_lit]
theorem aFq{x:Operand}{t f off:Nat}{ds es:List D}{ty:TypeId}{pos:String}{af:Array Edge}{gd:Option (Nat×Bool)}(hd:d<n)
  (hx:st.eval x=.cp ds)(hf:cK P t f off)(he:(ds.drop off).take es.length=es):bB P n ⟨some d,.fieldAddr t x f,ty,pos,af,gd⟩ st (st.set d (.cp es)):=
 cO rfl hd λA M w0 a w hR=>by
  have hk:cT x=true:=by cases x with|const u=>cases hx|_=>rfl
  have h:=hR.eval' hk;rw[hx] at h
  generalize hu:a.eval x=u at h
  cases h with
  | cp b o h hc hX=>
   refine⟨.pointer (some ⟨b,o+off,none⟩),by simp[execOp,hu,hf b o w],?_⟩;have hd':=(h.drop off).take es.length;rw[he] at hd';have hle:es.length<=ds.length-off:=by
    have h1:=congrArg List.length he;rw[List.length_take,List.length_drop] at h1
    omega
   exact .cp b _ hd' ((hc.drop off).take es.length) λj hj=>by
    have:=hX (off+j) (by omega)
    rwa[<-Nat.add_assoc] at this
theorem aBz{x:Operand}{t f off b o j:Nat}{ty:TypeId}{pos:String}{af:Array Edge}{gd:Option (Nat×Bool)}(hd:d<n)
  (hx:st.eval x=.bp b o j)(hf:cK P t f off):bB P n ⟨some d,.fieldAddr t x f,ty,pos,af,gd⟩ st (st.set d (.bp b o (j+off))):=
 cO rfl hd λA M w0 a w hR=>by
  have hk:cT x=true:=by cases x with|const u=>cases hx|_=>rfl
  have h:=hR.eval' hk;rw[hx] at h
  generalize hu:a.eval x=u at h
  cases h with
  |bp=>exact⟨.pointer (some ⟨b,o+j+off,none⟩),by simp[execOp,hu,hf b (o+j) w],by rw[Nat.add_assoc];exact .bp b o (j+off)⟩
theorem bLt{x:Operand}{t f off:Nat}{v:Value}{k i c:Nat}{ty:TypeId}{pos:String}{af:Array Edge}{gd:Option (Nat×Bool)}(hd:d<n)
  (hx:st.eval x=.ep v k i c)(hf:cK P t f off):bB P n ⟨some d,.fieldAddr t x f,ty,pos,af,gd⟩ st (st.set d (.ep v k i (c+off))):=
 cO rfl hd λA M w0 a w hR=>by
  have hk:cT x=true:=by cases x with|const u=>cases hx|_=>rfl
  have h:=hR.eval' hk;rw[hx] at h
  generalize hu:a.eval x=u at h
  cases h with
  |ep g m q=>exact⟨.pointer (some ⟨g,i*k+c+off,none⟩),by simp[execOp,hu,hf g (i*k+c) w],by rw[Nat.add_assoc];exact .ep g m q k i (c+off)⟩
theorem eI{x:Operand}{ds:List D}{ty:TypeId}{pos:String}{af:Array Edge}{gd:Option (Nat×Bool)}(hd:d<n)
  (hx:st.eval x=.cp ds):bB P n ⟨some d,.nilCheck x,ty,pos,af,gd⟩ st (st.set d (.cp ds)):=
 cO rfl hd λA M w0 a w hR=>by
  have hk:cT x=true:=by cases x with|const u=>cases hx|_=>rfl
  have h:=hR.eval' hk;rw[hx] at h;refine⟨_,?_,h⟩
  generalize hu:a.eval x=u at h
  cases h with
  |cp=>simp[execOp,hu]
theorem jL{x:Operand}{b o j:Nat}{ty:TypeId}{pos:String}{af:Array Edge}{gd:Option (Nat×Bool)}(hd:d<n)
  (hx:st.eval x=.bp b o j):bB P n ⟨some d,.nilCheck x,ty,pos,af,gd⟩ st (st.set d (.bp b o j)):=
 cO rfl hd λA M w0 a w hR=>by
  have hk:cT x=true:=by cases x with|const u=>cases hx|_=>rfl
  have h:=hR.eval' hk;rw[hx] at h;refine⟨_,?_,h⟩
  generalize hu:a.eval x=u at h
  cases h with
  |bp=>simp[execOp,hu]
theorem aBx{t:TypeId}(ht:iF P t){w:World}{b o:Nat}{v:Value}(h:w.cell? ⟨b,o,none⟩=some v):
  (Instr.loadAt t (.pointer (some ⟨b,o,none⟩))).run P w=.ok v w:=by
 simp[Instr.loadAt,Instr.sureAddr,loadVar,ht.1,run_load,h]
theorem aHr{t:TypeId}{m:Nat}(ht:kL P t m){w:World}{b o:Nat}{vs:List Value}(hl:vs.length=m)(h:cellsAt w b o vs):
  (Instr.loadAt t (.pointer (some ⟨b,o,none⟩))).run P w=.ok (.agg vs.toArray) w:=by
 subst hl;have:=run_loadCells_list (P:=P) w ⟨b,o,none⟩ vs λj v hj=>by rw[Addr.add_lit];exact h j v hj
 simp[Instr.loadAt,Instr.sureAddr,loadVar,ht.1,ht.2,this]
theorem aIw{x:Operand}{t:TypeId}{d0:D}{ds:List D}{ty:TypeId}{pos:String}{af:Array Edge}{gd:Option (Nat×Bool)}(hd:d<n)
  (hx:st.eval x=.cp (d0::ds))(ht:iF P t):bB P n ⟨some d,.load t x,ty,pos,af,gd⟩ st (st.set d (.d d0)):=
 cO rfl hd λA M w0 a w hR=>by
  have hk:cT x=true:=by cases x with|const u=>cases hx|_=>rfl
  have h:=hR.eval' hk;rw[hx] at h
  generalize hu:a.eval x=u at h
  cases h with
  | cp b o h hc hX=>
   obtain⟨v,hv,hdv⟩:=h.get (j:=0) rfl;have hc':=hc 0 v hv;rw[Nat.add_zero] at hc';exact⟨v,by simp[execOp,hu,aBx ht hc'],.d hdv⟩
theorem aFt{x:Operand}{t:TypeId}{m:Nat}{ds es:List D}{ty:TypeId}{pos:String}{af:Array Edge}{gd:Option (Nat×Bool)}(hd:d<n)
  (hx:st.eval x=.cp ds)(ht:kL P t m)(he:ds.take m=es)(hl:es.length=m):bB P n ⟨some d,.load t x,ty,pos,af,gd⟩ st (st.set d (.agg es)):=
 cO rfl hd λA M w0 a w hR=>by
  have hk:cT x=true:=by cases x with|const u=>cases hx|_=>rfl
  have h:=hR.eval' hk;rw[hx] at h
  generalize hu:a.eval x=u at h
  cases h with
  | cp b o h hc hX=>
   rename_i vs
   subst he;refine⟨.agg (vs.take m).toArray,?_,.agg (by simpa using h.take m)⟩
   simp[execOp,hu,aHr ht (vs:=vs.take m) (by rw[(h.take m).length,hl]) (hc.take m)]
theorem aAo{x:Operand}{t:TypeId}{b o j i:Nat}{ds:List D}{d0:D}{ty:TypeId}{pos:String}{af:Array Edge}{gd:Option (Nat×Bool)}(hd:d<n)
  (hx:st.eval x=.bp b o j)(ho:st.objs[i]?=some (.box b o ds))(hj:ds[j]?=some d0)(ht:iF P t):bB P n ⟨some d,.load t x,ty,pos,af,gd⟩ st (st.set d (.d d0)):=
 cO rfl hd λA M w0 a w hR=>by
  have hk:cT x=true:=by cases x with|const u=>cases hx|_=>rfl
  have h:=hR.eval' hk;rw[hx] at h
  generalize hu:a.eval x=u at h
  obtain⟨vs,hds,hc,_⟩:=hR.inv.holds _ (List.mem_of_getElem? ho);obtain⟨v,hv,hdv⟩:=hds.get hj;cases h with
  |bp=>exact⟨v,by simp[execOp,hu,aBx ht (hc j v hv)],.d hdv⟩
theorem aFs{x:Operand}{t:TypeId}{b o j i m:Nat}{ds es:List D}{ty:TypeId}{pos:String}{af:Array Edge}{gd:Option (Nat×Bool)}(hd:d<n)
  (hx:st.eval x=.bp b o j)(ho:st.objs[i]?=some (.box b o ds))(ht:kL P t m)(he:(ds.drop j).take m=es)(hl:es.length=m):bB P n ⟨some d,.load t x,ty,pos,af,gd⟩ st (st.set d (.agg es)):=
 cO rfl hd λA M w0 a w hR=>by
  have hk:cT x=true:=by cases x with|const u=>cases hx|_=>rfl
  have h:=hR.eval' hk;rw[hx] at h
  generalize hu:a.eval x=u at h
  obtain⟨vs,hds,hc,_⟩:=hR.inv.holds _ (List.mem_of_getElem? ho);have hdt:=(hds.drop j).take m;cases h with
  | bp=>
   subst he;refine⟨.agg ((vs.drop j).take m).toArray,?_,.agg (by simpa using hdt)⟩
   simp[execOp,hu,aHr ht (vs:=(vs.drop j).take m) (by rw[hdt.length,hl]) ((hc.drop j).take m)]
theorem aGr{k:Nat}:∀{rows:List (List D)} {i:Nat} {ds:List D},(∀r∈rows,r.length=k)->rows[i]?=some ds->∀{j:Nat},j<k->rows.flatten[i*k+j]?=ds[j]?
 |[],i,ds,_,h,j,_=>by simp at h
 | r::rows,0,ds,hk,h,j,hj=>by
  simp at h;subst h
  simp only[List.flatten_cons,Nat.zero_mul,Nat.zero_add];rw[List.getElem?_append_left (by rw[hk r (by simp)];exact hj)]
 | r::rows,i+1,ds,hk,h,j,hj=>by
  have hr:=hk r (by simp);simp only[List.flatten_cons];rw[List.getElem?_append_right (by rw[hr,Nat.succ_mul];omega),hr,show(i+1)*k+j-k=i*k+j by rw[Nat.succ_mul];omega];exact aGr (λr' h'=>hk r' (List.mem_cons_of_mem _ h')) (by simpa using h) hj
theorem bAd{k:Nat}:∀{rows:List (List D)} {i:Nat} {ds:List D},(∀r∈rows,r.length=k)->rows[i]?=some ds->(rows.flatten.drop (i*k)).take k=ds
 |[],i,ds,_,h=>by simp at h
 | r::rows,0,ds,hk,h=>by
  simp at h;subst h
  have hr:=hk r (by simp);simp only[List.flatten_cons,Nat.zero_mul,List.drop_zero];rw[List.take_append_of_le_length (by omega),List.take_of_length_le (by omega)]
 | r::rows,i+1,ds,hk,h=>by
  have hr:=hk r (by simp);simp only[List.flatten_cons];have hdrop:(r++rows.flatten).drop (r.length+i*k)=rows.flatten.drop (i*k):=by simp[List.drop_append]
  rw[show(i+1)*k=r.length+i*k by rw[Nat.succ_mul,hr];omega,hdrop];exact bAd (λr' h'=>hk r' (List.mem_cons_of_mem _ h')) (by simpa using h)
theorem aOk{w:World}{X:bH}{g m c:Nat}{e k:Nat}{rows:List (List D)}(h:(MO.arr (.slice (some ⟨g,0,none⟩) m c) e k rows).holds w X):
  ∃xs,DRs w X rows.flatten xs/\cellsAt w g 0 xs/\∀r∈rows,r.length=k:=by
 obtain⟨xs,hxs,hown,hr⟩:=h;refine⟨xs,hxs,λj v hj=>?_,hr⟩;have:=hown.cells (g:=g) rfl j v hj
 rwa[Addr.add_lit] at this
theorem sQ{x:Operand}{t:TypeId}{v:Value}{e k i c m:Nat}{rows:List (List D)}{ds:List D}{d0:D}{ty:TypeId}{pos:String}{af:Array Edge}{gd:Option (Nat×Bool)}(hd:d<n)
  (hx:st.eval x=.ep v k i c)(ho:st.objs[m]?=some (.arr v e k rows))(hi:rows[i]?=some ds)(hj:ds[c]?=some d0)(ht:iF P t):bB P n ⟨some d,.load t x,ty,pos,af,gd⟩ st (st.set d (.d d0)):=
 cO rfl hd λA M w0 a w hR=>by
  have hk:cT x=true:=by cases x with|const u=>cases hx|_=>rfl
  have h:=hR.eval' hk;rw[hx] at h
  generalize hu:a.eval x=u at h
  cases h with
  | ep g l q=>
   obtain⟨xs,hxs,hc,hr⟩:=aOk (hR.inv.holds _ (List.mem_of_getElem? ho));have hck:c<k:=by rw[<-hr _ (List.mem_of_getElem? hi)];exact(List.getElem?_eq_some_iff.1 hj).1
   obtain⟨v,hv,hdv⟩:=hxs.get ((aGr hr hi hck).trans hj);have hc':=hc _ v hv;rw[Nat.zero_add] at hc';exact⟨v,by simp[execOp,hu,aBx ht hc'],.d hdv⟩
theorem bLx{x:Operand}{t:TypeId}{v:Value}{e k i c m l:Nat}{rows:List (List D)}{ds es:List D}{ty:TypeId}{pos:String}{af:Array Edge}{gd:Option (Nat×Bool)}(hd:d<n)
  (hx:st.eval x=.ep v k i c)(ho:st.objs[l]?=some (.arr v e k rows))(hi:rows[i]?=some ds)(ht:kL P t m)(he:(ds.drop c).take m=es)(hl:es.length=m):bB P n ⟨some d,.load t x,ty,pos,af,gd⟩ st (st.set d (.agg es)):=
 cO rfl hd λA M w0 a w hR=>by
  have hk:cT x=true:=by cases x with|const u=>cases hx|_=>rfl
  have h:=hR.eval' hk;rw[hx] at h
  generalize hu:a.eval x=u at h
  cases h with
  | ep g l q=>
   obtain⟨xs,hxs,hc,hr⟩:=aOk (hR.inv.holds _ (List.mem_of_getElem? ho));have hp:DRs w (bF A st.objs) ds ((xs.drop (i*k)).take k):=by
    have:=(hxs.drop (i*k)).take k
    rwa[bAd hr hi] at this
   have hdt:=(hp.drop c).take m;subst he;refine⟨.agg ((((xs.drop (i*k)).take k).drop c).take m).toArray,?_,.agg (by simpa using hdt)⟩;have hc':=(((hc.drop (i*k)).take k).drop c).take m;rw[Nat.zero_add] at hc'
   simp[execOp,hu,aHr ht (vs:=(((xs.drop (i*k)).take k).drop c).take m) (by rw[hdt.length,hl]) hc']
def idx{α:Type}(xs:List α)(p:Int):Option α:=if 0<=p then xs[p.toNat]? else none
theorem zY{α:Type}{xs:List α}{p:Int}{x:α}(h:idx xs p=some x):0<=p/\p.toNat<xs.length/\xs[p.toNat]?=some x:=by
 unfold idx at h;split at h
 ·rename_i hp
  exact⟨hp,(List.getElem?_eq_some_iff.1 h).1,h⟩
 ·cases h
theorem cF{α β:Type}(f:α->β){xs:List α}{p:Int}{x:α}(h:idx xs p=some x):idx (xs.map f) p=some (f x):=by
 obtain⟨h1,_,h3⟩:=zY h
 simp[idx,h1,h3]
theorem DR.row{w:World}{X:bH}{k:Nat}{rows:List (List D)}{v:Value}(h:DR w X (.sl k rows) v){i:Nat}{ds:List D}(hi:rows[i]?=some ds):
  ∃b o cap vs,v=.slice (some ⟨b,o,none⟩) rows.length cap/\DRs w X ds vs/\cellsAt w b (o+i*k) vs/\(∀j,j<ds.length->¬X b (o+i*k+j)):=by
 cases h with
 |nil=>simp at hi
 |e0=>simp at hi
 | sl _ _ b o cap f hk hcap hmax hc hr=>
  have hlt:i<rows.length:=(List.getElem?_eq_some_iff.1 hi).1;have hlen:ds.length=k:=hk _ (List.mem_of_getElem? hi);refine⟨b,o,cap,(List.range k).map (f i),rfl,DRs.of (by simp[hlen]) ?_,?_,?_⟩
  ·intro j d v hd hv;have hj:j<k:=by rw[<-hlen];exact(List.getElem?_eq_some_iff.1 hd).1
   have:=hr i j hlt hj;simp only[List.getD,hi,Option.getD_some,hd] at this
   simp[hj] at hv
   subst hv;exact this
  ·intro j v hj;simp only[List.getElem?_map,Option.map_eq_some_iff] at hj;obtain⟨j',h1,rfl⟩:=hj;have hjk:j<k:=by simpa using(List.getElem?_eq_some_iff.1 h1).1
   have:j'=j:=by simpa[hjk] using h1.symm
   subst this;rw[Nat.add_assoc];exact(hc i j' hlt hjk).1
  ·intro j hj;rw[Nat.add_assoc];exact(hc i j hlt (by omega)).2
theorem aIu{t e k:Nat}(ht:gU P t e k){w:World}{b o len cap:Nat}{kd:IntKind}{p:Int}(h0:0<=p)(h1:p.toNat<len):
  (Instr.indexAt t (.slice (some ⟨b,o,none⟩) len cap) (.int kd p)).run P w=.ok (.pointer (some ⟨b,o+p.toNat*k,none⟩)) w:=by
 simp[Instr.indexAt,asIntOf,ht.1,ht.2,h0,show p<(len:Int) by omega,Addr.add_lit]
theorem aFr{x y:Operand}{t e k:Nat}{rows:List (List D)}{kd:IntKind}{p:Int}{ds:List D}{ty:TypeId}{pos:String}{af:Array Edge}{gd:Option (Nat×Bool)}(hd:d<n)
  (hx:st.eval x=.d (.sl k rows))(hy:st.eval y=.d (.lit (.int kd p)))(ht:gU P t e k)(hp:idx rows p=some ds):
  bB P n ⟨some d,.indexAddr t x y,ty,pos,af,gd⟩ st (st.set d (.cp ds)):=
 cO rfl hd λA M w0 a w hR=>by
  obtain⟨h0,h1,h2⟩:=zY hp;have hk:cT x=true:=by cases x with|const u=>cases hx|_=>rfl
  have h:=hR.eval' hk;rw[hx] at h
  generalize hu:a.eval x=u at h
  cases h with
  | d h=>
   obtain⟨b,o,cap,vs,rfl,hds,hc,hX⟩:=h.row h2;exact⟨_,by simp only[execOp,hu,hR.lit hy,Sem.run_bind,aIu ht h0 h1];rfl,.cp b _ hds hc hX⟩
theorem mK{x y:Operand}{t e k m:Nat}{v:Value}{e':Nat}{rows:List (List D)}{kd:IntKind}{p:Int}{ty:TypeId}{pos:String}{af:Array Edge}{gd:Option (Nat×Bool)}{ds:List D}(hd:d<n)
  (hx:st.eval x=.d (.lit v))(ho:st.objs[m]?=some (.arr v e' k rows))(hy:st.eval y=.d (.lit (.int kd p)))(ht:gU P t e k)(hp:idx rows p=some ds):
  bB P n ⟨some d,.indexAddr t x y,ty,pos,af,gd⟩ st (st.set d (.ep v k p.toNat 0)):=
 cO rfl hd λA M w0 a w hR=>by
  obtain⟨h0,h1,h2⟩:=zY hp;obtain⟨xs,_,hown,_⟩:=hR.inv.holds _ (List.mem_of_getElem? ho)
  rcases hown.2 with⟨_,hn⟩|⟨g,cap,cur,rfl,_⟩
  ·rw[hn] at h1;omega
  ·refine⟨.pointer (some ⟨g,p.toNat*k+0,none⟩),?_,.ep g rows.length cap k p.toNat 0⟩;have:=aIu (P:=P) ht (w:=w) (b:=g) (o:=0) (len:=rows.length) (cap:=cap) (kd:=kd) h0 h1;simp only[Nat.zero_add] at this
   simp[execOp,hR.lit hx,hR.lit hy,this]
theorem aWs{t len e k:Nat}(ht:aUf P t len e k){w:World}{b o:Nat}{kd:IntKind}{p:Int}(h0:0<=p)(h1:p<len):
  (Instr.indexAt t (.pointer (some ⟨b,o,none⟩)) (.int kd p)).run P w=.ok (.pointer (some ⟨b,o+p.toNat*k,none⟩)) w:=by
 simp[Instr.indexAt,asIntOf,ht.1,ht.2,h0,h1,Instr.sureAddr,Addr.add_lit]
theorem aDq{x y:Operand}{t len e k b o j:Nat}{kd:IntKind}{p:Int}{ty:TypeId}{pos:String}{af:Array Edge}{gd:Option (Nat×Bool)}(hd:d<n)
  (hx:st.eval x=.bp b o j)(hy:st.eval y=.d (.lit (.int kd p)))(ht:aUf P t len e k)(h0:0<=p)(h1:p<len):
  bB P n ⟨some d,.indexAddr t x y,ty,pos,af,gd⟩ st (st.set d (.bp b o (j+p.toNat*k))):=
 cO rfl hd λA M w0 a w hR=>by
  have hk:cT x=true:=by cases x with|const u=>cases hx|_=>rfl
  have h:=hR.eval' hk;rw[hx] at h
  generalize hu:a.eval x=u at h
  cases h with
  |bp=>exact⟨.pointer (some ⟨b,o+j+p.toNat*k,none⟩),by simp[execOp,hu,hR.lit hy,aWs ht h0 h1],by rw[Nat.add_assoc];exact .bp b o _⟩
theorem bFu{x:Operand}{k:Nat}{rows:List (List D)}{t ty:TypeId}{pos:String}{af:Array Edge}{gd:Option (Nat×Bool)}(hd:d<n)
  (hx:st.eval x=.d (.sl k rows)){e kk:Nat}(ht:gU P t e kk):bB P n ⟨some d,.call {callee:=.builtin .len,args:= #[x],argTypes:= #[t]},ty,pos,af,gd⟩ st (st.set d (.i rows.length)):=
 cO rfl hd λA M w0 a w hR=>by
  have hk:cT x=true:=by cases x with|const u=>cases hx|_=>rfl
  have h:=hR.eval' hk;rw[hx] at h
  generalize hu:a.eval x=u at h
  refine⟨.int .i64 rows.length,?_,.of_lit rfl⟩;cases h with
  | d h=>
   cases h with
   |nil=>simp[execOp,resolve,hu,invoke,builtin,Builtin.len_,goInt,ht.1]
   |e0=>simp[execOp,resolve,hu,invoke,builtin,Builtin.len_,goInt,ht.1]
   |sl=>simp[execOp,resolve,hu,invoke,builtin,Builtin.len_,goInt,ht.1]
theorem bVa{w:World}{X:bH}{v:Value}{e k:Nat}{rows:List (List D)}(h:(MO.arr v e k rows).holds w X):∃b c,v=.slice b rows.length c:=by
 obtain⟨xs,_,hown,_⟩:=h
 rcases hown.2 with⟨h,hn⟩|⟨g,cap,cur,h,_⟩
 ·exact⟨none,0,by rw[h,hn]⟩
 ·exact⟨_,_,h⟩
theorem bBa{x:Operand}{v:Value}{e k m:Nat}{rows:List (List D)}{t ty:TypeId}{pos:String}{af:Array Edge}{gd:Option (Nat×Bool)}(hd:d<n)
  (hx:st.eval x=.d (.lit v))(ho:st.objs[m]?=some (.arr v e k rows)){e' kk:Nat}(ht:gU P t e' kk):bB P n ⟨some d,.call {callee:=.builtin .len,args:= #[x],argTypes:= #[t]},ty,pos,af,gd⟩ st (st.set d (.i rows.length)):=
 cO rfl hd λA M w0 a w hR=>by
  obtain⟨b,c,rfl⟩:=bVa (hR.inv.holds _ (List.mem_of_getElem? ho));exact⟨.int .i64 rows.length,by simp[execOp,resolve,hR.lit hx,invoke,builtin,Builtin.len_,goInt,ht.1],.of_lit rfl⟩
end
end Go.Am
