/- Several texts, one behind the other. -/
import Derived.Test.YtejdennodgdfhaaGreatDoorAmTr
import Derived.Laws.IdiomCopy
import Derived.Laws.MakeOwn
section
namespace Go.Am
abbrev AV.i(n:Int):AV:=.d (.lit (.int .i64 n))
abbrev AV.b(b:Bool):AV:=.d (.lit (.bool b))
abbrev D.i(n:Int):D:=.lit (.int .i64 n)
abbrev D.b(b:Bool):D:=.lit (.bool b)
abbrev w64(n:Int):Int:=IntKind.i64.wrap n
theorem VR.of_lit{w:World}{X:bE}{v:Value}(h:v.oneCell'=true):VR w X (.d (.lit v)) v:=.d (.lit v h)
section
variable{P:Program}{n d:Nat}{st:St}{o:Oper}
theorem fQ[Mode]{v:Value}(ho:o.dst=some d)(hd:d<n)(hv:v.oneCell'=true)
  (h:∀(A M:bE) (w0:W0) (a:Act) (w:World),R A M w0 n st a w->(execOp a.eval o).run P w=.ok (.value v) w):aY P n o st (st.set d (.d (.lit v))):=
 cA ho hd λA M w0 a w hR=>⟨v,h A M w0 a w hR,.of_lit hv⟩
theorem R.lit[Mode]{A M:bE}{w0:W0}{a:Act}{w:World}(h:R A M w0 n st a w){x:Operand}{v:Value}(hx:st.eval x=.d (.lit v)):a.eval x=v:=by
 cases x with
 |tmp t=>have:=h.env t;rw[show st.env t=_ from hx] at this;exact this.lit
 |const u=>simp only[St.eval,AV.d.injEq,D.lit.injEq] at hx;exact hx
 |global g=>cases hx
 |func f=>cases hx
theorem bK[Mode]{x:Operand}{v:AV}{ty:TypeId}{pos:String}{af:Array Edge}{gd:Option (Nat×Bool)}(hd:d<n)(hx:st.eval x=v)(hk:cJ x=true):aY P n ⟨some d,.move x,ty,pos,af,gd⟩ st (st.set d v):=
 cA rfl hd λ_ _ _ _ _ hR=>⟨_,rfl,hx▸hR.eval' hk⟩
theorem bL[Mode]{x:Operand}{v:AV}{ty:TypeId}{pos:String}{af:Array Edge}{gd:Option (Nat×Bool)}(hd:d<n)(hx:st.eval x=v)(hk:cJ x=true):aY P n ⟨some d,.assign x,ty,pos,af,gd⟩ st (st.set d v):=
 cA rfl hd λ_ _ _ _ _ hR=>⟨_,rfl,hx▸hR.eval' hk⟩
theorem aEu[Mode](k:Nat){ty:TypeId}{pos:String}{af:Array Edge}{gd:Option (Nat×Bool)}(hd:d<n):aY P n ⟨some d,.assign (.const (.slice none 0 0)),ty,pos,af,gd⟩ st (st.set d (.d (.sl k []))):=
 cA rfl hd λ_ _ _ _ _ _=>⟨_,rfl,.d (.nil k)⟩
theorem bSm[Mode](k:Nat){ty:TypeId}{pos:String}{af:Array Edge}{gd:Option (Nat×Bool)}(hd:d<n):aY P n ⟨some d,.move (.const (.slice none 0 0)),ty,pos,af,gd⟩ st (st.set d (.d (.sl k []))):=
 cA rfl hd λ_ _ _ _ _ _=>⟨_,rfl,.d (.nil k)⟩
theorem vN[Mode]{c x y:Operand}{b:Bool}{v:AV}{ty:TypeId}{pos:String}{af:Array Edge}{gd:Option (Nat×Bool)}(hd:d<n)(hc:st.eval c=.d (.lit (.bool b)))(hb:b=true)(hx:st.eval x=v)(hk:cJ x=true):
  aY P n ⟨some d,.pick c x y,ty,pos,af,gd⟩ st (st.set d v):=
 cA rfl hd λA M w0 a w hR=>⟨_,by simp[execOp,hR.lit hc,asBool,hb],hx▸hR.eval' hk⟩
theorem rM[Mode]{c x y:Operand}{b:Bool}{v:AV}{ty:TypeId}{pos:String}{af:Array Edge}{gd:Option (Nat×Bool)}(hd:d<n)(hc:st.eval c=.d (.lit (.bool b)))(hb:b=false)(hx:st.eval y=v)(hk:cJ y=true):
  aY P n ⟨some d,.pick c x y,ty,pos,af,gd⟩ st (st.set d v):=
 cA rfl hd λA M w0 a w hR=>⟨_,by simp[execOp,hR.lit hc,asBool,hb],hx▸hR.eval' hk⟩
def aPn:BinOp->Int->Int->Option Int
 | .add,x,y=>some (x+y)
 | .sub,x,y=>some (x-y)
 | .mul,x,y=>some (x*y)
 |_,_,_=>none
def cmp:BinOp->Int->Int->Option Bool
 | .lss,x,y=>some (decide (x<y))
 | .leq,x,y=>some (decide (x<=y))
 | .gtr,x,y=>some (decide (y<x))
 | .geq,x,y=>some (decide (y<=x))
 | .eql,x,y=>some (decide (x=y))
 | .neq,x,y=>some (!decide (x=y))
 |_,_,_=>none
theorem uC[Mode]{op:BinOp}{x y:Operand}{k:IntKind}{p q r:Int}{t u ty:TypeId}{pos:String}{af:Array Edge}{gd:Option (Nat×Bool)}(hd:d<n)
  (hx:st.eval x=.d (.lit (.int k p)))(hy:st.eval y=.d (.lit (.int k q)))(hr:aPn op p q=some r):
  aY P n ⟨some d,.binOp op t x y u,ty,pos,af,gd⟩ st (st.set d (.d (.lit (.int k (k.wrap r))))):=
 fQ rfl hd rfl λA M w0 a w hR=>by
  cases op<;>simp only[aPn,Option.some.injEq,reduceCtorEq] at hr<;>
   (subst hr;simp[execOp,hR.lit hx,hR.lit hy,eqGuard,binOp,Op.intArith])
theorem nF[Mode]{op:BinOp}{x y:Operand}{k:IntKind}{p q:Int}{r:Bool}{t u ty:TypeId}{pos:String}{af:Array Edge}{gd:Option (Nat×Bool)}(hd:d<n)
  (hx:st.eval x=.d (.lit (.int k p)))(hy:st.eval y=.d (.lit (.int k q)))(hr:cmp op p q=some r):
  aY P n ⟨some d,.binOp op t x y u,ty,pos,af,gd⟩ st (st.set d (.b r)):=
 fQ rfl hd rfl λA M w0 a w hR=>by
  cases op<;>simp only[cmp,Option.some.injEq,reduceCtorEq] at hr<;>
   (subst hr;simp[execOp,hR.lit hx,hR.lit hy,eqGuard,binOp,Op.intCmp])<;>rfl
theorem xN[Mode]{x:Operand}{b:Bool}{t ty:TypeId}{pos:String}{af:Array Edge}{gd:Option (Nat×Bool)}(hd:d<n)
  (hx:st.eval x=.d (.lit (.bool b))):aY P n ⟨some d,.unOp .not t x,ty,pos,af,gd⟩ st (st.set d (.b (!b))):=
 fQ rfl hd rfl λA M w0 a w hR=>by simp[execOp,hR.lit hx,Op.unary]
theorem bTy[Mode]{x:Operand}{k:IntKind}{p:Int}{t ty:TypeId}{pos:String}{af:Array Edge}{gd:Option (Nat×Bool)}(hd:d<n)
  (hx:st.eval x=.d (.lit (.int k p))):aY P n ⟨some d,.unOp .neg t x,ty,pos,af,gd⟩ st (st.set d (.d (.lit (.int k (k.wrap (-p)))))):=
 fQ rfl hd rfl λA M w0 a w hR=>by simp[execOp,hR.lit hx,Op.unary,Op.intArith]
theorem bJa[Mode]{op:BinOp}{x y:Operand}{k:IntKind}{p q:Int}{t u ty:TypeId}{pos:String}{af:Array Edge}{gd:Option (Nat×Bool)}{f:BitVec k.bits->BitVec k.bits->BitVec k.bits}(hd:d<n)
  (hx:st.eval x=.d (.lit (.int k p)))(hy:st.eval y=.d (.lit (.int k q)))
  (hop:op=.and/\f=(·&&&·)\/op=.or/\f=(·|||·)\/op=.xor/\f=(·^^^·)):
  aY P n ⟨some d,.binOp op t x y u,ty,pos,af,gd⟩ st (st.set d (.d (.lit (.int k (k.wrap (f (BitVec.ofInt k.bits p) (BitVec.ofInt k.bits q)).toNat))))):=
 fQ rfl hd rfl λA M w0 a w hR=>by
  rcases hop with⟨rfl,rfl⟩|⟨rfl,rfl⟩|⟨rfl,rfl⟩<;>simp[execOp,hR.lit hx,hR.lit hy,eqGuard,binOp,Op.intBits]
theorem bOi[Mode]{x y:Operand}{k:IntKind}{p q:Int}{t u ty:TypeId}{pos:String}{af:Array Edge}{gd:Option (Nat×Bool)}(hd:d<n)
  (hx:st.eval x=.d (.lit (.int k p)))(hy:st.eval y=.d (.lit (.int k q)))(hq:q≠0):
  aY P n ⟨some d,.binOp .quo t x y u,ty,pos,af,gd⟩ st (st.set d (.d (.lit (.int k (k.wrap (p.tdiv q)))))):=
 fQ rfl hd rfl λA M w0 a w hR=>by simp[execOp,hR.lit hx,hR.lit hy,eqGuard,binOp,Op.intDiv,hq]
theorem aEv[Mode]{x y:Operand}{k:IntKind}{p q:Int}{t u ty:TypeId}{pos:String}{af:Array Edge}{gd:Option (Nat×Bool)}(hd:d<n)
  (hx:st.eval x=.d (.lit (.int k p)))(hy:st.eval y=.d (.lit (.int k q)))(hq:q≠0):
  aY P n ⟨some d,.binOp .rem t x y u,ty,pos,af,gd⟩ st (st.set d (.d (.lit (.int k (p.tmod q))))):=
 fQ rfl hd rfl λA M w0 a w hR=>by simp[execOp,hR.lit hx,hR.lit hy,eqGuard,binOp,Op.intDiv,hq]
theorem bOk[Mode]{x y:Operand}{k k':IntKind}{p q:Int}{t u ty:TypeId}{pos:String}{af:Array Edge}{gd:Option (Nat×Bool)}(hd:d<n)
  (hx:st.eval x=.d (.lit (.int k p)))(hy:st.eval y=.d (.lit (.int k' q)))(hq:0<=q):
  aY P n ⟨some d,.binOp .shl t x y u,ty,pos,af,gd⟩ st (st.set d (.d (.lit (.int k (k.wrap (p*2^(min q.toNat k.bits))))))):=
 fQ rfl hd rfl λA M w0 a w hR=>by simp[execOp,hR.lit hx,hR.lit hy,eqGuard,binOp,Op.shift,show¬q<0 by omega]
theorem bOl[Mode]{x y:Operand}{k k':IntKind}{p q:Int}{t u ty:TypeId}{pos:String}{af:Array Edge}{gd:Option (Nat×Bool)}(hd:d<n)
  (hx:st.eval x=.d (.lit (.int k p)))(hy:st.eval y=.d (.lit (.int k' q)))(hq:0<=q):
  aY P n ⟨some d,.binOp .shr t x y u,ty,pos,af,gd⟩ st (st.set d (.d (.lit (.int k (p.fdiv (2^(min q.toNat k.bits))))))):=
 fQ rfl hd rfl λA M w0 a w hR=>by simp[execOp,hR.lit hx,hR.lit hy,eqGuard,binOp,Op.shift,show¬q<0 by omega]
theorem dD[Mode]{x:Operand}{vs:List AV}{i:Nat}{v:AV}{ty:TypeId}{pos:String}{af:Array Edge}{gd:Option (Nat×Bool)}(hd:d<n)
  (hx:st.eval x=.tup vs)(hv:vs[i]?=some v):aY P n ⟨some d,.extract x i,ty,pos,af,gd⟩ st (st.set d v):=
 cA rfl hd λA M w0 a w hR=>by
  have hk:cJ x=true:=by cases x with|const u=>cases hx|_=>rfl
  have h:=hR.eval' hk;rw[hx] at h
  generalize hu:a.eval x=u at h
  cases h with
  | tup hl h'=>
   rename_i us
   have hi:i<vs.length:=(List.getElem?_eq_some_iff.1 hv).1;have h1:=h' i hi;have hi':i<us.length:=by omega
   simp only[List.getD,hv,Option.getD_some,List.getElem?_eq_getElem hi'] at h1;refine⟨_,?_,h1⟩
   simp[execOp,hu,Instr.extract,hi']
def bG(P:Program)(s:TypeId)(f off:Nat):Prop:=
 ∀(b o:Nat) (w:World),(Instr.fieldAt s (.pointer (some ⟨b,o,none⟩)) f).run P w=.ok (.pointer (some ⟨b,o+off,none⟩)) w
def gL(P:Program)(t:TypeId)(n:Nat):Prop:=(∀w,(isAgg t).run P w=.ok true w)/\∀w,(sizeOf t).run P w=.ok n w
def dJ(P:Program)(t:TypeId):Prop:=(∀w,(isAgg t).run P w=.ok false w)/\∀w,(sizeOf t).run P w=.ok 1 w
def iL(P:Program)(t e k:Nat):Prop:=(∀w,(underlying t).run P w=.ok (.slice e) w)/\∀w,(sizeOf e).run P w=.ok k w
theorem bB{s f off m:Nat}{fs:Array Field}{fd:Field}(hs:∀w,(underlying s).run P w=.ok (.struct fs) w)(hf:fs[f]?=some fd)(ho:fd.offset=off)
  (hz:∀w,(sizeOf fd.type).run P w=.ok (m+1) w):bG P s f off:=by
 intro b o w;subst ho
 simp[Instr.fieldAt,hs,hf,Instr.sureAddr,fieldPlace,hz,Addr.add_lit]
theorem aCd[Mode]{x:Operand}{t f off:Nat}{ds es:List D}{ty:TypeId}{pos:String}{af:Array Edge}{gd:Option (Nat×Bool)}(hd:d<n)
  (hx:st.eval x=.cp ds)(hf:bG P t f off)(he:(ds.drop off).take es.length=es):aY P n ⟨some d,.fieldAddr t x f,ty,pos,af,gd⟩ st (st.set d (.cp es)):=
 cA rfl hd λA M w0 a w hR=>by
  have hk:cJ x=true:=by cases x with|const u=>cases hx|_=>rfl
  have h:=hR.eval' hk;rw[hx] at h
  generalize hu:a.eval x=u at h
  cases h with
  | cp b o h hc hX=>
   refine⟨.pointer (some ⟨b,o+off,none⟩),by simp[execOp,hu,hf b o w],?_⟩;have hd':=(h.drop off).take es.length;rw[he] at hd';have hle:es.length<=ds.length-off:=by
    have h1:=congrArg List.length he;rw[List.length_take,List.length_drop] at h1
    omega
   exact .cp b _ hd' ((hc.drop off).take es.length) λj hj=>by
    have:=hX (off+j) (by omega)
    rwa[<-Nat.add_assoc] at this
theorem gI[Mode]{x:Operand}{t f off b o j:Nat}{ty:TypeId}{pos:String}{af:Array Edge}{gd:Option (Nat×Bool)}(hd:d<n)
  (hx:st.eval x=.bp b o j)(hf:bG P t f off):aY P n ⟨some d,.fieldAddr t x f,ty,pos,af,gd⟩ st (st.set d (.bp b o (j+off))):=
 cA rfl hd λA M w0 a w hR=>by
  have hk:cJ x=true:=by cases x with|const u=>cases hx|_=>rfl
  have h:=hR.eval' hk;rw[hx] at h
  generalize hu:a.eval x=u at h
  cases h with
  |bp=>exact⟨.pointer (some ⟨b,o+j+off,none⟩),by simp[execOp,hu,hf b (o+j) w],by rw[Nat.add_assoc];exact .bp b o (j+off)⟩
theorem bFm[Mode]{x:Operand}{t f off:Nat}{v:Value}{k i c:Nat}{ty:TypeId}{pos:String}{af:Array Edge}{gd:Option (Nat×Bool)}(hd:d<n)
  (hx:st.eval x=.ep v k i c)(hf:bG P t f off):aY P n ⟨some d,.fieldAddr t x f,ty,pos,af,gd⟩ st (st.set d (.ep v k i (c+off))):=
 cA rfl hd λA M w0 a w hR=>by
  have hk:cJ x=true:=by cases x with|const u=>cases hx|_=>rfl
  have h:=hR.eval' hk;rw[hx] at h
  generalize hu:a.eval x=u at h
  cases h with
  |ep g m q=>exact⟨.pointer (some ⟨g,i*k+c+off,none⟩),by simp[execOp,hu,hf g (i*k+c) w],by rw[Nat.add_assoc];exact .ep g m q k i (c+off)⟩
theorem eB[Mode]{x:Operand}{ds:List D}{ty:TypeId}{pos:String}{af:Array Edge}{gd:Option (Nat×Bool)}(hd:d<n)
  (hx:st.eval x=.cp ds):aY P n ⟨some d,.nilCheck x,ty,pos,af,gd⟩ st (st.set d (.cp ds)):=
 cA rfl hd λA M w0 a w hR=>by
  have hk:cJ x=true:=by cases x with|const u=>cases hx|_=>rfl
  have h:=hR.eval' hk;rw[hx] at h;refine⟨_,?_,h⟩
  generalize hu:a.eval x=u at h
  cases h with
  |cp=>simp[execOp,hu]
theorem bJ[Mode]{x:Operand}{b o j:Nat}{ty:TypeId}{pos:String}{af:Array Edge}{gd:Option (Nat×Bool)}(hd:d<n)
  (hx:st.eval x=.bp b o j):aY P n ⟨some d,.nilCheck x,ty,pos,af,gd⟩ st (st.set d (.bp b o j)):=
 cA rfl hd λA M w0 a w hR=>by
  have hk:cJ x=true:=by cases x with|const u=>cases hx|_=>rfl
  have h:=hR.eval' hk;rw[hx] at h;refine⟨_,?_,h⟩
  generalize hu:a.eval x=u at h
  cases h with
  |bp=>simp[execOp,hu]
theorem xM{t:TypeId}(ht:dJ P t){w:World}{b o:Nat}{v:Value}(h:w.cell? ⟨b,o,none⟩=some v):
  (Instr.loadAt t (.pointer (some ⟨b,o,none⟩))).run P w=.ok v w:=by
 simp[Instr.loadAt,Instr.sureAddr,loadVar,ht.1,run_load,h]
theorem aDq{t:TypeId}{m:Nat}(ht:gL P t m){w:World}{b o:Nat}{vs:List Value}(hl:vs.length=m)(h:cellsAt w b o vs):
  (Instr.loadAt t (.pointer (some ⟨b,o,none⟩))).run P w=.ok (.agg vs.toArray) w:=by
 subst hl;have:=run_loadCells_list (P:=P) w ⟨b,o,none⟩ vs λj v hj=>by rw[Addr.add_lit];exact h j v hj
 simp[Instr.loadAt,Instr.sureAddr,loadVar,ht.1,ht.2,this]
theorem cG[Mode]{x:Operand}{t:TypeId}{d0:D}{ds:List D}{ty:TypeId}{pos:String}{af:Array Edge}{gd:Option (Nat×Bool)}(hd:d<n)
  (hx:st.eval x=.cp (d0::ds))(ht:dJ P t):aY P n ⟨some d,.load t x,ty,pos,af,gd⟩ st (st.set d (.d d0)):=
 cA rfl hd λA M w0 a w hR=>by
  have hk:cJ x=true:=by cases x with|const u=>cases hx|_=>rfl
  have h:=hR.eval' hk;rw[hx] at h
  generalize hu:a.eval x=u at h
  cases h with
  | cp b o h hc hX=>
   obtain⟨v,hv,hdv⟩:=h.get (j:=0) rfl;have hc':=hc 0 v hv;rw[Nat.add_zero] at hc';exact⟨v,by simp[execOp,hu,xM ht hc'],.d hdv⟩
theorem aIq[Mode]{x:Operand}{t:TypeId}{m:Nat}{ds es:List D}{ty:TypeId}{pos:String}{af:Array Edge}{gd:Option (Nat×Bool)}(hd:d<n)
  (hx:st.eval x=.cp ds)(ht:gL P t m)(he:ds.take m=es)(hl:es.length=m):aY P n ⟨some d,.load t x,ty,pos,af,gd⟩ st (st.set d (.agg es)):=
 cA rfl hd λA M w0 a w hR=>by
  have hk:cJ x=true:=by cases x with|const u=>cases hx|_=>rfl
  have h:=hR.eval' hk;rw[hx] at h
  generalize hu:a.eval x=u at h
  cases h with
  | cp b o h hc hX=>
   rename_i vs
   subst he;refine⟨.agg (vs.take m).toArray,?_,.agg (by simpa using h.take m)⟩
   simp[execOp,hu,aDq ht (vs:=vs.take m) (by rw[(h.take m).length,hl]) (hc.take m)]
theorem kV[Mode]{x:Operand}{t:TypeId}{b o j i:Nat}{ds:List D}{d0:D}{ty:TypeId}{pos:String}{af:Array Edge}{gd:Option (Nat×Bool)}(hd:d<n)
  (hx:st.eval x=.bp b o j)(ho:st.objs[i]?=some (.box b o ds))(hj:ds[j]?=some d0)(ht:dJ P t):aY P n ⟨some d,.load t x,ty,pos,af,gd⟩ st (st.set d (.d d0)):=
 cA rfl hd λA M w0 a w hR=>by
  have hk:cJ x=true:=by cases x with|const u=>cases hx|_=>rfl
  have h:=hR.eval' hk;rw[hx] at h
  generalize hu:a.eval x=u at h
  obtain⟨vs,hds,hc,_⟩:=hR.inv.holds _ (List.mem_of_getElem? ho);obtain⟨v,hv,hdv⟩:=hds.get hj;cases h with
  |bp=>exact⟨v,by simp[execOp,hu,xM ht (hc j v hv)],.d hdv⟩
theorem pF[Mode]{x:Operand}{t:TypeId}{b o j i m:Nat}{ds es:List D}{ty:TypeId}{pos:String}{af:Array Edge}{gd:Option (Nat×Bool)}(hd:d<n)
  (hx:st.eval x=.bp b o j)(ho:st.objs[i]?=some (.box b o ds))(ht:gL P t m)(he:(ds.drop j).take m=es)(hl:es.length=m):aY P n ⟨some d,.load t x,ty,pos,af,gd⟩ st (st.set d (.agg es)):=
 cA rfl hd λA M w0 a w hR=>by
  have hk:cJ x=true:=by cases x with|const u=>cases hx|_=>rfl
  have h:=hR.eval' hk;rw[hx] at h
  generalize hu:a.eval x=u at h
  obtain⟨vs,hds,hc,_⟩:=hR.inv.holds _ (List.mem_of_getElem? ho);have hdt:=(hds.drop j).take m;cases h with
  | bp=>
   subst he;refine⟨.agg ((vs.drop j).take m).toArray,?_,.agg (by simpa using hdt)⟩
   simp[execOp,hu,aDq ht (vs:=(vs.drop j).take m) (by rw[hdt.length,hl]) ((hc.drop j).take m)]
theorem aCv{k:Nat}:∀{rows:List (List D)} {i:Nat} {ds:List D},(∀r∈rows,r.length=k)->rows[i]?=some ds->∀{j:Nat},j<k->rows.flatten[i*k+j]?=ds[j]?
 |[],i,ds,_,h,j,_=>by simp at h
 | r::rows,0,ds,hk,h,j,hj=>by
  simp at h;subst h
  simp only[List.flatten_cons,Nat.zero_mul,Nat.zero_add];rw[List.getElem?_append_left (by rw[hk r (by simp)];exact hj)]
 | r::rows,i+1,ds,hk,h,j,hj=>by
  have hr:=hk r (by simp);simp only[List.flatten_cons];rw[List.getElem?_append_right (by rw[hr,Nat.succ_mul];omega),hr,show(i+1)*k+j-k=i*k+j by rw[Nat.succ_mul];omega];exact aCv (λr' h'=>hk r' (List.mem_cons_of_mem _ h')) (by simpa using h) hj
theorem aUo{k:Nat}:∀{rows:List (List D)} {i:Nat} {ds:List D},(∀r∈rows,r.length=k)->rows[i]?=some ds->(rows.flatten.drop (i*k)).take k=ds
 |[],i,ds,_,h=>by simp at h
 | r::rows,0,ds,hk,h=>by
  simp at h;subst h
  have hr:=hk r (by simp);simp only[List.flatten_cons,Nat.zero_mul,List.drop_zero];rw[List.take_append_of_le_length (by omega),List.take_of_length_le (by omega)]
 | r::rows,i+1,ds,hk,h=>by
  have hr:=hk r (by simp);simp only[List.flatten_cons];have hdrop:(r++rows.flatten).drop (r.length+i*k)=rows.flatten.drop (i*k):=by simp[List.drop_append]
  rw[show(i+1)*k=r.length+i*k by rw[Nat.succ_mul,hr];omega,hdrop];exact aUo (λr' h'=>hk r' (List.mem_cons_of_mem _ h')) (by simpa using h)
theorem aKb[Mode]{w:World}{X:bE}{g m c:Nat}{e k:Nat}{rows:List (List D)}(h:(MO.arr (.slice (some ⟨g,0,none⟩) m c) e k rows).holds w X):
  ∃xs,DRs w X rows.flatten xs/\cellsAt w g 0 xs/\∀r∈rows,r.length=k:=by
 obtain⟨xs,hxs,hown,hr⟩:=h;refine⟨xs,hxs,λj v hj=>?_,hr⟩;have:=hown.cells (g:=g) rfl j v hj
 rwa[Addr.add_lit] at this
theorem wF[Mode]{x:Operand}{t:TypeId}{v:Value}{e k i c m:Nat}{rows:List (List D)}{ds:List D}{d0:D}{ty:TypeId}{pos:String}{af:Array Edge}{gd:Option (Nat×Bool)}(hd:d<n)
  (hx:st.eval x=.ep v k i c)(ho:st.objs[m]?=some (.arr v e k rows))(hi:rows[i]?=some ds)(hj:ds[c]?=some d0)(ht:dJ P t):aY P n ⟨some d,.load t x,ty,pos,af,gd⟩ st (st.set d (.d d0)):=
 cA rfl hd λA M w0 a w hR=>by
  have hk:cJ x=true:=by cases x with|const u=>cases hx|_=>rfl
  have h:=hR.eval' hk;rw[hx] at h
  generalize hu:a.eval x=u at h
  cases h with
  | ep g l q=>
   obtain⟨xs,hxs,hc,hr⟩:=aKb (hR.inv.holds _ (List.mem_of_getElem? ho));have hck:c<k:=by rw[<-hr _ (List.mem_of_getElem? hi)];exact(List.getElem?_eq_some_iff.1 hj).1
   obtain⟨v,hv,hdv⟩:=hxs.get ((aCv hr hi hck).trans hj);have hc':=hc _ v hv;rw[Nat.zero_add] at hc';exact⟨v,by simp[execOp,hu,xM ht hc'],.d hdv⟩
theorem aRv[Mode]{x:Operand}{t:TypeId}{v:Value}{e k i c m l:Nat}{rows:List (List D)}{ds es:List D}{ty:TypeId}{pos:String}{af:Array Edge}{gd:Option (Nat×Bool)}(hd:d<n)
  (hx:st.eval x=.ep v k i c)(ho:st.objs[l]?=some (.arr v e k rows))(hi:rows[i]?=some ds)(ht:gL P t m)(he:(ds.drop c).take m=es)(hl:es.length=m):aY P n ⟨some d,.load t x,ty,pos,af,gd⟩ st (st.set d (.agg es)):=
 cA rfl hd λA M w0 a w hR=>by
  have hk:cJ x=true:=by cases x with|const u=>cases hx|_=>rfl
  have h:=hR.eval' hk;rw[hx] at h
  generalize hu:a.eval x=u at h
  cases h with
  | ep g l q=>
   obtain⟨xs,hxs,hc,hr⟩:=aKb (hR.inv.holds _ (List.mem_of_getElem? ho));have hp:DRs w (aV A st.objs) ds ((xs.drop (i*k)).take k):=by
    have:=(hxs.drop (i*k)).take k
    rwa[aUo hr hi] at this
   have hdt:=(hp.drop c).take m;subst he;refine⟨.agg ((((xs.drop (i*k)).take k).drop c).take m).toArray,?_,.agg (by simpa using hdt)⟩;have hc':=(((hc.drop (i*k)).take k).drop c).take m;rw[Nat.zero_add] at hc'
   simp[execOp,hu,aDq ht (vs:=(((xs.drop (i*k)).take k).drop c).take m) (by rw[hdt.length,hl]) hc']
def idx{α:Type}(xs:List α)(p:Int):Option α:=if 0<=p then xs[p.toNat]? else none
theorem aCz{α:Type}{xs:List α}{p:Int}{x:α}(h:idx xs p=some x):0<=p/\p.toNat<xs.length/\xs[p.toNat]?=some x:=by
 unfold idx at h;split at h
 ·rename_i hp
  exact⟨hp,(List.getElem?_eq_some_iff.1 h).1,h⟩
 ·cases h
theorem dI{α β:Type}(f:α->β){xs:List α}{p:Int}{x:α}(h:idx xs p=some x):idx (xs.map f) p=some (f x):=by
 obtain⟨h1,_,h3⟩:=aCz h
 simp[idx,h1,h3]
theorem DR.row{w:World}{X:bE}{k:Nat}{rows:List (List D)}{v:Value}(h:DR w X (.sl k rows) v){i:Nat}{ds:List D}(hi:rows[i]?=some ds):
  ∃b o cap vs,v=.slice (some ⟨b,o,none⟩) rows.length cap/\DRs w X ds vs/\cellsAt w b (o+i*k) vs/\(∀j,j<ds.length->¬X b (o+i*k+j)):=by
 cases h with
 |nil=>simp at hi
 |e0=>simp at hi
 | sl _ _ b o cap f hk hcap hmax hc hr=>
  have hlt:i<rows.length:=(List.getElem?_eq_some_iff.1 hi).1;have hlen:ds.length=k:=hk _ (List.mem_of_getElem? hi);refine⟨b,o,cap,(List.range k).map (f i),rfl,DRs.of (by simp[hlen]) ?_,?_,?_⟩
  ·intro j d v hd hv;have hj:j<k:=by rw[<-hlen];exact(List.getElem?_eq_some_iff.1 hd).1
   have:=hr i j hlt hj;simp only[List.getD,hi,Option.getD_some,hd] at this
   simp[hj] at hv
   subst hv;exact this
  ·intro j v hj;simp only[List.getElem?_map,Option.map_eq_some_iff] at hj;obtain⟨j',h1,rfl⟩:=hj;have hjk:j<k:=by simpa using(List.getElem?_eq_some_iff.1 h1).1
   have:j'=j:=by simpa[hjk] using h1.symm
   subst this;rw[Nat.add_assoc];exact(hc i j' hlt hjk).1
  ·intro j hj;rw[Nat.add_assoc];exact(hc i j hlt (by omega)).2
theorem aEr{t e k:Nat}(ht:iL P t e k){w:World}{b o len cap:Nat}{kd:IntKind}{p:Int}(h0:0<=p)(h1:p.toNat<len):
  (Instr.indexAt t (.slice (some ⟨b,o,none⟩) len cap) (.int kd p)).run P w=.ok (.pointer (some ⟨b,o+p.toNat*k,none⟩)) w:=by
 simp[Instr.indexAt,asIntOf,ht.1,ht.2,h0,show p<(len:Int) by omega,Addr.add_lit]
theorem lX[Mode]{x y:Operand}{t e k:Nat}{rows:List (List D)}{kd:IntKind}{p:Int}{ds:List D}{ty:TypeId}{pos:String}{af:Array Edge}{gd:Option (Nat×Bool)}(hd:d<n)
  (hx:st.eval x=.d (.sl k rows))(hy:st.eval y=.d (.lit (.int kd p)))(ht:iL P t e k)(hp:idx rows p=some ds):
  aY P n ⟨some d,.indexAddr t x y,ty,pos,af,gd⟩ st (st.set d (.cp ds)):=
 cA rfl hd λA M w0 a w hR=>by
  obtain⟨h0,h1,h2⟩:=aCz hp;have hk:cJ x=true:=by cases x with|const u=>cases hx|_=>rfl
  have h:=hR.eval' hk;rw[hx] at h
  generalize hu:a.eval x=u at h
  cases h with
  | d h=>
   obtain⟨b,o,cap,vs,rfl,hds,hc,hX⟩:=h.row h2;exact⟨_,by simp only[execOp,hu,hR.lit hy,Sem.run_bind,aEr ht h0 h1];rfl,.cp b _ hds hc hX⟩
theorem pM[Mode]{x y:Operand}{t e k m:Nat}{v:Value}{e':Nat}{rows:List (List D)}{kd:IntKind}{p:Int}{ty:TypeId}{pos:String}{af:Array Edge}{gd:Option (Nat×Bool)}{ds:List D}(hd:d<n)
  (hx:st.eval x=.d (.lit v))(ho:st.objs[m]?=some (.arr v e' k rows))(hy:st.eval y=.d (.lit (.int kd p)))(ht:iL P t e k)(hp:idx rows p=some ds):
  aY P n ⟨some d,.indexAddr t x y,ty,pos,af,gd⟩ st (st.set d (.ep v k p.toNat 0)):=
 cA rfl hd λA M w0 a w hR=>by
  obtain⟨h0,h1,h2⟩:=aCz hp;obtain⟨xs,_,hown,_⟩:=hR.inv.holds _ (List.mem_of_getElem? ho)
  rcases hown.2 with⟨_,hn⟩|⟨g,cap,cur,rfl,_⟩
  ·rw[hn] at h1;omega
  ·refine⟨.pointer (some ⟨g,p.toNat*k+0,none⟩),?_,.ep g rows.length cap k p.toNat 0⟩;have:=aEr (P:=P) ht (w:=w) (b:=g) (o:=0) (len:=rows.length) (cap:=cap) (kd:=kd) h0 h1;simp only[Nat.zero_add] at this
   simp[execOp,hR.lit hx,hR.lit hy,this]
theorem aZy[Mode]{x:Operand}{k:Nat}{rows:List (List D)}{t ty:TypeId}{pos:String}{af:Array Edge}{gd:Option (Nat×Bool)}(hd:d<n)
  (hx:st.eval x=.d (.sl k rows)){e kk:Nat}(ht:iL P t e kk):aY P n ⟨some d,.call {callee:=.builtin .len,args:= #[x],argTypes:= #[t]},ty,pos,af,gd⟩ st (st.set d (.i rows.length)):=
 cA rfl hd λA M w0 a w hR=>by
  have hk:cJ x=true:=by cases x with|const u=>cases hx|_=>rfl
  have h:=hR.eval' hk;rw[hx] at h
  generalize hu:a.eval x=u at h
  refine⟨.int .i64 rows.length,?_,.of_lit rfl⟩;cases h with
  | d h=>
   cases h with
   |nil=>simp[execOp,resolve,hu,invoke,builtin,Builtin.len_,goInt,ht.1]
   |e0=>simp[execOp,resolve,hu,invoke,builtin,Builtin.len_,goInt,ht.1]
   |sl=>simp[execOp,resolve,hu,invoke,builtin,Builtin.len_,goInt,ht.1]
theorem bOx[Mode]{w:World}{X:bE}{v:Value}{e k:Nat}{rows:List (List D)}(h:(MO.arr v e k rows).holds w X):∃b c,v=.slice b rows.length c:=by
 obtain⟨xs,_,hown,_⟩:=h
 rcases hown.2 with⟨h,hn⟩|⟨g,cap,cur,h,_⟩
 ·exact⟨none,0,by rw[h,hn]⟩
 ·exact⟨_,_,h⟩
theorem aVl[Mode]{x:Operand}{v:Value}{e k m:Nat}{rows:List (List D)}{t ty:TypeId}{pos:String}{af:Array Edge}{gd:Option (Nat×Bool)}(hd:d<n)
  (hx:st.eval x=.d (.lit v))(ho:st.objs[m]?=some (.arr v e k rows)){e' kk:Nat}(ht:iL P t e' kk):aY P n ⟨some d,.call {callee:=.builtin .len,args:= #[x],argTypes:= #[t]},ty,pos,af,gd⟩ st (st.set d (.i rows.length)):=
 cA rfl hd λA M w0 a w hR=>by
  obtain⟨b,c,rfl⟩:=bOx (hR.inv.holds _ (List.mem_of_getElem? ho));exact⟨.int .i64 rows.length,by simp[execOp,resolve,hR.lit hx,invoke,builtin,Builtin.len_,goInt,ht.1],.of_lit rfl⟩
end
end Go.Am
end
section
section
namespace Go.Am
theorem Keeps.alloc[Mode](Z:bE)(w:World)(o:Obj):Keeps Z w (w.alloc o):=
  ⟨rfl,rfl,rfl,by simp,λb hb _=>heap_alloc_old w o b hb,λb _ hb _=>World.cell?_alloc_lt w o _ hb,
   λb _ hb _=>World.frozen?_alloc_old w o ⟨b,_,none⟩ (Nat.ne_of_lt hb),λ_=>Nat.le_refl _⟩
theorem Keeps.drew[Mode](Z:bE)(w:World):Keeps Z w w.drew:=
 ⟨rfl,rfl,rfl,Nat.le_refl _,λ_ _ _=>rfl,λ_ _ _ _=>rfl,λ_ _ _ _=>rfl,λ_=>Nat.le_succ _⟩
theorem aCy(b:Nat):∀(vs:List Value) (o:Nat) (w:World) (i:Nat),i≠b->(w.setCells b o vs).heap[i]?=w.heap[i]?
 |[],_,_,_,_=>rfl
 | v::vs,o,w,i,h=>by
  rw[World.setCells,aCy b vs _ _ i h,heap_setCell_other _ _ _ _ h]
theorem aLu(b:Nat):∀(vs:List Value) (o:Nat) (w:World),(w.setCells b o vs).os=w.os/\(w.setCells b o vs).tape=w.tape/\(w.setCells b o vs).output=w.output/\(w.setCells b o vs).heap.size=w.heap.size/\(w.setCells b o vs).drawn=w.drawn
 |[],_,_=>⟨rfl,rfl,rfl,rfl,rfl⟩
 | v::vs,o,w=>by
  rw[World.setCells];have:=aLu b vs (o+1) (w.setCell ⟨b,o,none⟩ v)
  simpa[World.setCell] using this
theorem Keeps.setCells[Mode](w:World)(b o:Nat)(vs:List Value){Z:bE}(hz:∀y,o<=y->y<o+vs.length->Z b y)(hne:vs≠[]):Keeps Z w (w.setCells b o vs):=by
 have hf:=aLu b vs o w;refine⟨hf.1,hf.2.1,hf.2.2.1,by rw[hf.2.2.2.1];exact Nat.le_refl _,λi hi h=>?_,λi y hi h=>?_,λ_ _ _ _=>World.frozen?_setCells b vs o w _,λ_=>by rw[hf.2.2.2.2];exact Nat.le_refl _⟩
 ·by_cases hib:i=b
  ·subst hib;have:0<vs.length:=List.length_pos_iff.2 hne;exact absurd (hz o (Nat.le_refl _) (by omega)) (h o)
  ·exact aCy b vs o w i hib
 ·refine World.cell?_setCells_out b vs o w ⟨i,y,none⟩ λhb _=>?_;simp only at hb|-;subst hb
  rcases Nat.lt_or_ge y o with h1|h1
  ·exact .inl h1
  ·rcases Nat.lt_or_ge y (o+vs.length) with h2|h2
   ·exact absurd (hz y h1 h2) h
   ·exact .inr h2
theorem R.change[Mode]{A M Z:bE}{w0:W0}{n:Nat}{st:St}{a:Act}{w w':World}{objs':List MO}(h:R A M w0 n st a w)(hk:Keeps Z w w')
  (hz:∀b o,Z b o->dR st.objs b o)(hl:∀b o,b<w.heap.size->dR objs' b o->dR st.objs b o)(hsep:Sep objs')
  (hh:Mono w (aV A st.objs) w' (aV A objs')->∀m∈objs',m.holds w' (aV A objs')):R A M w0 n ⟨st.env,objs'⟩ a w':=by
 have hm:Mono w (aV A st.objs) w' (aV A objs'):=gK hk (λb o hb=>.inr (hz b o hb)) λb o hb hx=>hx.imp id (hl b o hb);have hs0:=h.keeps.size;refine⟨h.size,h.defers.step hk (λb o hb=>.inr (hz b o hb)) (λb o hb hx=>hx.imp id (hl b o hb)),λk=>(h.env k).mono hm,⟨hsep,λm hm' b o hf hA=>?_,hh hm,h.inv.amb.on hm⟩,h.keeps.weaken hk λb o hb=>?_,λm hm' b o hf=>?_,h.old⟩
 ·have hlt:=Nat.lt_of_lt_of_le (h.old b o hA) hs0;obtain⟨m2,h2,h3⟩:=hl b o hlt ⟨m,hm',hf⟩;exact h.inv.apart m2 h2 b o h3 hA
 ·obtain⟨m2,h2,h3⟩:=hz b o hb;exact h.own m2 h2 b o h3
 ·rcases Nat.lt_or_ge b w.heap.size with hlt|hge
  ·obtain⟨m2,h2,h3⟩:=hl b o hlt ⟨m,hm',hf⟩;exact h.own m2 h2 b o h3
  ·exact .inr (Nat.le_trans hs0 hge)
theorem lW{l l':List MO}{b o:Nat}:dR (l++l') b o↔dR l b o\/dR l' b o:=by
 constructor
 ·rintro⟨m,hm,hf⟩
  rcases List.mem_append.1 hm with h|h
  ·exact .inl ⟨m,h,hf⟩
  ·exact .inr ⟨m,h,hf⟩
 ·rintro(⟨m,hm,hf⟩|⟨m,hm,hf⟩)
  ·exact⟨m,List.mem_append.2 (.inl hm),hf⟩
  ·exact⟨m,List.mem_append.2 (.inr hm),hf⟩
theorem bKn{m:MO}{b o:Nat}:dR [m] b o↔m.foot b o:=by simp[dR]
theorem R.add[Mode]{A M:bE}{w0:W0}{n:Nat}{st:St}{a:Act}{w w':World}{m:MO}(h:R A M w0 n st a w)(hk:Keeps (λ_ _=>False) w w')
  (hf:∀b o,m.foot b o->w.heap.size<=b)(hh:Mono w (aV A st.objs) w' (aV A (st.objs++[m]))->m.holds w' (aV A (st.objs++[m]))):R A M w0 n ⟨st.env,st.objs++[m]⟩ a w':=by
 have hlt:∀x∈st.objs,∀b o,x.foot b o->b<w.heap.size:=λx hx b o hxf=>kH (h.inv.holds x hx) hxf;refine h.change hk (λ_ _ hx=>hx.elim) (λb o hb hx=>?_) ?_ λhm x hx=>?_
 ·rcases lW.1 hx with h1|h1
  ·exact h1
  ·have:=hf b o (bKn.1 h1);omega
 ·refine List.pairwise_append.2 ⟨h.inv.sep,by simp,λx hx y hy b o hxf hyf=>?_⟩
  simp at hy;subst hy
  have:=hlt x hx b o hxf;have:=hf b o hyf
  omega
 ·rcases List.mem_append.1 hx with h1|h1
  ·exact bV (h.inv.holds x h1) hk (λ_ _ _ hx=>hx) hm
  ·simp at h1;subst h1;exact hh hm
theorem R.replace[Mode]{A M Z:bE}{w0:W0}{n:Nat}{st:St}{a:Act}{w w':World}{i:Nat}{m m':MO}(h:R A M w0 n st a w)(hi:st.objs[i]?=some m)(hk:Keeps Z w w')
  (hz:∀b o,Z b o->m.foot b o)(hf:∀b o,m'.foot b o->m.foot b o\/w.heap.size<=b)
  (hh:Mono w (aV A st.objs) w' (aV A (st.objs.set i m'))->m'.holds w' (aV A (st.objs.set i m'))):R A M w0 n ⟨st.env,st.objs.set i m'⟩ a w':=by
 have hlt:∀x∈st.objs,∀b o,x.foot b o->b<w.heap.size:=λx hx b o hxf=>kH (h.inv.holds x hx) hxf;have hil:i<st.objs.length:=(List.getElem?_eq_some_iff.1 hi).1;have hmi:st.objs[i]=m:=(List.getElem?_eq_some_iff.1 hi).2;have hsep:=List.pairwise_iff_getElem.1 h.inv.sep;refine h.change hk (λb o hb=>⟨m,List.mem_of_getElem? hi,hz b o hb⟩) (λb o hb hx=>?_) ?_ λhm x hx=>?_
 ·obtain⟨x,hx,hxf⟩:=hx
  rcases List.mem_or_eq_of_mem_set hx with h1|rfl
  ·exact⟨x,h1,hxf⟩
  ·rcases hf b o hxf with h1|h1
   ·exact⟨m,List.mem_of_getElem? hi,h1⟩
   ·omega
 ·refine List.pairwise_iff_getElem.2 λp q hp hq hpq b o hpf hqf=>?_;simp only[List.length_set] at hp hq;simp only[List.getElem_set] at hpf hqf;split at hpf
  ·rename_i hip
   split at hqf
   ·omega
   ·subst hip
    rcases hf b o hpf with h1|h1
    ·exact hsep i q hil hq hpq b o (hmi▸h1) hqf
    ·have:=hlt _ (List.getElem_mem hq) b o hqf;omega
  ·split at hqf
   ·rename_i hiq
    subst hiq
    rcases hf b o hqf with h1|h1
    ·exact hsep p i hp hil hpq b o hpf (hmi▸h1)
    ·have:=hlt _ (List.getElem_mem hp) b o hpf;omega
   ·exact hsep p q hp hq hpq b o hpf hqf
 ·obtain⟨q,hq⟩:=List.getElem?_of_mem hx;rw[List.getElem?_set] at hq
  by_cases hne:i=q
  ·subst hne;rw[if_pos rfl,if_pos hil] at hq;cases hq;exact hh hm
  ·rw[if_neg hne] at hq;have hql:q<st.objs.length:=(List.getElem?_eq_some_iff.1 hq).1;have hqe:st.objs[q]=x:=(List.getElem?_eq_some_iff.1 hq).2;have hxm:x∈st.objs:=List.mem_of_getElem? hq;refine bV (h.inv.holds x hxm) hk (λb o hxf hzb=>?_) hm;have hmf:=hz b o hzb
   rcases Nat.lt_or_gt_of_ne hne with h1|h1
   ·exact hsep i q hil hql h1 b o (hmi▸hmf) (hqe▸hxf)
   ·exact hsep q i hql hil h1 b o (hqe▸hxf) (hmi▸hmf)
def AV.cells:AV->Option (List D)
 | .d x=>some [x]
 | .agg xs=>some xs
 |_=>none
theorem VR.cells{w:World}{X:bE}{x:AV}{v:Value}{ds:List D}(h:VR w X x v)(hc:x.cells=some ds):DRs w X ds v.cells.toList:=by
 cases h with
 | d h=>
  cases hc;have:=h.oneCell;cases v<;>first|(exact⟨h,trivial⟩)|(simp[Value.oneCell'] at this)
 |agg h=>cases hc;exact h
 |_=>cases hc
section
variable{P:Program}{n d:Nat}{st:St}{o:Oper}
theorem aUd[Mode]{w:World}{X X':bE}{ds:List D}{cs:Array Value}{e:TypeId}(h:DRs w X ds cs.toList)(hm:Mono w X (w.alloc (.cells cs e)) X'):(MO.box w.heap.size 0 ds).holds (w.alloc (.cells cs e)) X':=by
 refine⟨cs.toList,h.mono hm,λj v hj=>?_,λj _=>?_⟩
 ·rw[World.cell?_alloc_new];simpa using hj
 ·simp
theorem eP[Mode]{x:Operand}{t:TypeId}{v:AV}{ds:List D}{ty:TypeId}{pos:String}{af:Array Edge}{gd:Option (Nat×Bool)}(hd:d<n)
  (hx:st.eval x=v)(hk:cJ x=true)(hv:v.cells=some ds):
  Step P n ⟨some d,.box t x,ty,pos,af,gd⟩ st (λs=>∃b,s=(st.setadd d (.bp b 0 0) (.box b 0 ds))):=by
 intro A M w0 a w hR K Q hK;have h:=hR.eval' hk;rw[hx] at h;have hds:=h.cells hv;unfold Oper.wp;have hrun:(execOp a.eval ⟨some d,.box t x,ty,pos,af,gd⟩).run P w=.ok (.value (.pointer (some ⟨w.heap.size,0,none⟩))) (w.alloc (.cells (a.eval x).cells t)):=by
  simp[execOp,Instr.box,newVar,newRow]
 rw[hrun,Oper.upon_value];refine hK _ _ _ ⟨w.heap.size,rfl⟩ ?_;have hR':=hR.add (w':=w.alloc (.cells (a.eval x).cells t)) (m:=.box w.heap.size 0 ds) (Keeps.alloc _ _ _) (λb o hf=>by cases hf.1;exact Nat.le_refl _)
  (λhm=>aUd hds hm)
 exact hR'.put (o:=⟨some d,.box t x,ty,pos,af,gd⟩) rfl hd (.bp _ 0 0)
def bD:D->Value
 | .lit v=>v
 | .sl _ _=>.slice none 0 0
 | .sn _ _=>.slice none 0 0
 | .mp _ _=>.map none
 | .pt _=>.pointer none
 | .fc .. =>undef
 | .hv .. =>undef
def zOK:List D->Bool
 |[]=>true
 | .lit v::l=>v.oneCell'&&zOK l
 | .sl _ []::l=>zOK l
 |_=>false
theorem zF{w:World}{X:bE}:∀{zs:List D},zOK zs=true->DRs w X zs (zs.map bD)
 |[],_=>trivial
 | .lit v::l,h=>by
  simp only[zOK,Bool.and_eq_true] at h;exact⟨.lit v h.1,zF h.2⟩
 | .sl k []::l,h=>⟨.nil k,zF (by simpa[zOK] using h)⟩
 | .sl k (r::rs)::l,h=>by simp[zOK] at h
 | .sn k rs::l,h=>by simp[zOK] at h
 | .mp _ _::l,h=>by simp[zOK] at h
 | .pt _::l,h=>by simp[zOK] at h
 | .fc .. ::l,h=>by simp[zOK] at h
 | .hv .. ::l,h=>by simp[zOK] at h
theorem cF[Mode]{t:TypeId}{z:Value}{zs:List D}{ty:TypeId}{pos:String}{af:Array Edge}{gd:Option (Nat×Bool)}(hd:d<n)
  (hz:∀w,(zeroValue t).run P w=.ok z w)(hzs:z.cells=(zs.map bD).toArray)(hok:zOK zs=true):
  Step P n ⟨some d,.alloc t,ty,pos,af,gd⟩ st (λs=>∃b,s=(st.setadd d (.bp b 0 0) (.box b 0 zs))):=by
 intro A M w0 a w hR K Q hK;unfold Oper.wp;have hrun:(execOp a.eval ⟨some d,.alloc t,ty,pos,af,gd⟩).run P w=.ok (.value (.pointer (some ⟨w.heap.size,0,none⟩))) (w.alloc (.cells (zs.map bD).toArray t)):=by
  simp[execOp,Instr.alloc,newVar,newRow,hz,hzs]
 rw[hrun,Oper.upon_value];refine hK _ _ _ ⟨w.heap.size,rfl⟩ ?_;have hR':=hR.add (w':=w.alloc (.cells (zs.map bD).toArray t)) (m:=.box w.heap.size 0 zs) (Keeps.alloc _ _ _) (λb o hf=>by cases hf.1;exact Nat.le_refl _)
  (λhm=>aUd (by simpa using zF (w:=w) (X:=aV A st.objs) hok) hm)
 exact hR'.put (o:=⟨some d,.alloc t,ty,pos,af,gd⟩) rfl hd (.bp _ 0 0)
theorem aEs{t m:Nat}(hs:∀w,(sizeOf t).run P w=.ok m w){w:World}{b o:Nat}{v:Value}(hm:v.cells.size=m)
  (hc:∀j,j<m->(w.cell? ⟨b,o+j,none⟩).isSome=true)(hf:∀j,j<m->w.frozen? ⟨b,o+j,none⟩=false)(h1:∀u∈v.cells.toList,u.oneCell'=true):
  (Instr.storeAt t (.pointer (some ⟨b,o,none⟩)) v).run P w=.ok () (w.setCells b o v.cells.toList):=by
 have:=run_storeCells_cells (P:=P) b o v.cells.toList 0 w (by simpa[hm] using hc) (by simpa[hm] using hf) h1
 simp[Instr.storeAt,Instr.sureAddr,storeVar,hs,hm]
 simpa using this
def fD(ds:List D)(j:Nat)(es:List D):List D:=ds.take j++es++ds.drop (j+es.length)
theorem xG{ds es:List D}{j:Nat}(h:j+es.length<=ds.length):(fD ds j es).length=ds.length:=by
 simp[fD];omega
theorem aNt{w:World}{X X':bE}{b o:Nat}{ds es:List D}{vs us:List Value}{j:Nat}(hds:DRs w X ds vs)(hc:cellsAt w b o vs)(hes:DRs w X es us)(hj:j+es.length<=ds.length)
  (hm:Mono w X (w.setCells b (o+j) us) X'):
  ∃vs',DRs (w.setCells b (o+j) us) X' (fD ds j es) vs'/\cellsAt (w.setCells b (o+j) us) b o vs':=by
 have hlv:=hds.length;have hlu:=hes.length;refine⟨vs.take j++us++vs.drop (j+es.length),(((hds.take j).append hes).append (hds.drop _)).mono hm,λq v hq=>?_⟩;have hcell:∀i,i<vs.length->(w.cell? ⟨b,o+i,none⟩).isSome=true:=λi hi=>by rw[hc i _ (List.getElem?_eq_getElem hi)];rfl
 rcases Nat.lt_or_ge q j with h1|h1
 ·rw[List.append_assoc,List.getElem?_append_left (by simp;omega),List.getElem?_take,if_pos h1] at hq;rw[World.cell?_setCells_out b us (o+j) w ⟨b,o+q,none⟩ λ_ _=>.inl (by simp only;omega)];exact hc q v hq
 ·rcases Nat.lt_or_ge q (j+us.length) with h2|h2
  ·rw[List.append_assoc,List.getElem?_append_right (by simp;omega),List.getElem?_append_left (by simp;omega)] at hq;have hq':q-(List.take j vs).length=q-j:=by simp;omega
   rw[hq'] at hq;have:=World.cell?_setCells_in b us (o+j) w (λi hi=>by rw[Nat.add_assoc];exact hcell (j+i) (by omega)) (q-j) (by omega);rw[show o+j+(q-j)=o+q by omega] at this;rw[this,<-hq,List.getElem?_eq_getElem]
  ·rw[List.getElem?_append_right (by simp;omega),List.getElem?_drop] at hq;have hq':j+es.length+(q-(List.take j vs++us).length)=q:=by simp;omega
   rw[hq'] at hq;rw[World.cell?_setCells_out b us (o+j) w ⟨b,o+q,none⟩ λ_ _=>.inr (by simp only;omega)];exact hc q v hq
theorem cV[Mode]{x y:Operand}{t m b o0 j i:Nat}{ds es ds':List D}{v:AV}{ty:TypeId}{pos:String}{af:Array Edge}{gd:Option (Nat×Bool)}
  (hx:st.eval x=.bp b o0 j)(ho:st.objs[i]?=some (.box b o0 ds))(hy:st.eval y=v)(hk:cJ y=true)(hv:v.cells=some es)(ht:∀w,(sizeOf t).run P w=.ok m w)(hm:es.length=m)(hm0:0<m)
  (hj:j+es.length<=ds.length)(hds:fD ds j es=ds'):
  aY P n ⟨none,.store t x y,ty,pos,af,gd⟩ st (st.put1 i (.box b o0 ds')):=by
 intro A M w0 a w hR K Q hK;have hkx:cJ x=true:=by cases x with|const u=>cases hx|_=>rfl
 have h:=hR.eval' hkx;rw[hx] at h;have hyv:=hR.eval' hk;rw[hy] at hyv;have hes:=hyv.cells hv;obtain⟨vs,hvs,hc,hf⟩:=hR.inv.holds _ (List.mem_of_getElem? ho);have hlv:=hvs.length;have hle:=hes.length;have hsz:(a.eval y).cells.size=m:=by rw[<-Array.length_toList,hle,hm]
 have hcell:∀i,i<vs.length->(w.cell? ⟨b,o0+i,none⟩).isSome=true:=λi hi=>by rw[hc i _ (List.getElem?_eq_getElem hi)];rfl
 have hpt:a.eval x=.pointer (some ⟨b,o0+j,none⟩):=by
  generalize hu:a.eval x=u at h
  cases h;rfl
 have hst:=aEs (P:=P) ht (w:=w) (b:=b) (o:=o0+j) hsz (λq hq=>by rw[Nat.add_assoc];exact hcell _ (by omega)) (λq hq=>by rw[Nat.add_assoc];exact hf _ (by omega)) hes.oneCell;unfold Oper.wp;have hrun:(execOp a.eval ⟨none,.store t x y,ty,pos,af,gd⟩).run P w=.ok .skip (w.setCells b (o0+j) (a.eval y).cells.toList):=by
  simp[execOp,hpt,hst]
 rw[hrun,Oper.upon_skip];refine hK _ _ _ rfl ?_;subst hds;have hne:(a.eval y).cells.toList≠[]:=by intro h0;rw[h0] at hle;simp at hle;omega
 have hR':=hR.replace (w':=w.setCells b (o0+j) (a.eval y).cells.toList) (m':=.box b o0 (fD ds j es)) ho (Keeps.setCells w b (o0+j) _ (Z:=(MO.box b o0 ds).foot) (λq h1 h2=>⟨rfl,by omega,by omega⟩) hne)
  (λ_ _ hz=>hz) (λp q hf'=>.inl ⟨hf'.1,hf'.2.1,by have:=hf'.2.2;rwa[xG hj] at this⟩) λhmono=>by
   obtain⟨vs',h1,h2⟩:=aNt hvs hc hes hj hmono;exact⟨vs',h1,h2,λq hq=>by rw[World.frozen?_setCells];exact hf q (by rwa[xG hj] at hq)⟩
 exact hR'.put_none rfl
end
end Go.Am
end
section
namespace Go.Am
theorem aKs:∀(vs:List Value) (off k:Nat) (cs:Array Value),off+k+vs.length<=cs.size->
  ((vs.zipIdx k).foldl (λcs x=>cs.setIfInBounds (off+x.2) x.1) cs).toList=cs.toList.take (off+k)++vs++cs.toList.drop (off+k+vs.length)
 |[],off,k,cs,_=>by simp
 | v::vs,off,k,cs,h=>by
  simp only[List.length_cons] at h;simp only[List.zipIdx_cons,List.foldl_cons];rw[aKs vs off (k+1) (cs.setIfInBounds (off+k) v) (by simp;omega)];rw[Array.toList_setIfInBounds];have hl:off+k<cs.toList.length:=by simp;omega
  rw[show off+(k+1)=off+k+1 by omega,List.take_succ_eq_append_getElem (by simpa using hl),List.take_set_of_le (by omega)];rw[List.drop_set_of_lt (by omega)];simp only[List.getElem_set_self,List.length_cons,List.append_assoc,List.singleton_append,List.cons_append,List.nil_append];rw[show off+k+1+vs.length=off+k+(vs.length+1) by omega]
def xA(place:Nat->Option (Nat×Nat))(ds:List D):List (Nat×AV)->Option (List D)
 |[]=>some ds
 | (i,x)::rest=>
  match place i,x.cells with
  |some (off,size),some es=>if es.length=size/\off+es.length<=ds.length then xA place (fD ds off es) rest else none
  |_,_=>none
def PRs(w:World)(X:bE):List (Nat×AV)->List (Nat×Value)->Prop
 |[],[]=>True
 |(i,x)::l,(j,v)::l'=>i=j/\VR w X x v/\PRs w X l l'
 |_,_=>False
theorem aYf{w:World}{X:bE}{place:Nat->Option (Nat×Nat)}:∀{l:List (Nat×AV)} {l':List (Nat×Value)} {ds ds':List D} {cs:Array Value},
  DRs w X ds cs.toList->PRs w X l l'->xA place ds l=some ds'->∃cs',Instr.fill place cs l'=some cs'/\DRs w X ds' cs'.toList
 | [],[],ds,ds',cs,h,_,hf=>by
  simp only[xA,Option.some.injEq] at hf;subst hf;exact⟨cs,rfl,h⟩
 | (i,x)::l,(j,v)::l',ds,ds',cs,h,hp,hf=>by
  obtain⟨rfl,hv,hp'⟩:=hp;simp only[xA] at hf;split at hf
  ·rename_i off size es hpl hcell
   split at hf
   ·rename_i hcond
    obtain⟨h1,h2⟩:=hcond;have hes:=hv.cells hcell;have hle:=hes.length;have hlc:=h.length;simp only[Array.length_toList] at hle hlc;have hfold:=aKs v.cells.toList off 0 cs (by simp;omega);simp only[Nat.add_zero] at hfold;have harr:v.cells.zipIdx.foldl (λcs (c,j)=>cs.setIfInBounds (off+j) c) cs=(cs.toList.take off++v.cells.toList++cs.toList.drop (off+v.cells.toList.length)).toArray:=by
     apply Array.ext';rw[<-hfold,<-Array.foldl_toList]
     simp
    have hd':DRs w X (fD ds off es) (cs.toList.take off++v.cells.toList++cs.toList.drop (off+v.cells.toList.length)):=by
     unfold fD;rw[show v.cells.toList.length=es.length by simp;omega];exact((h.take off).append hes).append (h.drop _)
    obtain⟨cs',hc1,hc2⟩:=aYf (l:=l) (l':=l') (cs:=(cs.toList.take off++v.cells.toList++cs.toList.drop (off+v.cells.toList.length)).toArray) (by simpa using hd') hp' hf;refine⟨cs',?_,hc2⟩;simp only[Instr.fill,hpl,harr];rw[if_neg (by simp;omega)];exact hc1
   ·cases hf
  ·cases hf
section
variable{P:Program}{n d:Nat}{st:St}{o:Oper}
def St.parts(st:St):List (Nat×Operand)->List (Nat×AV)
 |[]=>[]
 |(i,x)::l=>(i,st.eval x)::St.parts st l
def uA:List (Nat×Operand)->Bool
 |[]=>true
 |(_,x)::l=>cJ x&&uA l
theorem aAl[Mode]{A M:bE}{w0:W0}{a:Act}{w:World}(hR:R A M w0 n st a w):∀{l:List (Nat×Operand)},uA l=true->
  PRs w (aV A st.objs) (st.parts l) (l.map λ(i,x)=>(i,a.eval x))
 |[],_=>trivial
 | (i,x)::l,h=>by
  simp only[uA,Bool.and_eq_true] at h;exact⟨rfl,hR.eval' h.1,aAl hR h.2⟩
def jJ(P:Program)(t:TypeId)(z:Value)(pl:List (Nat×Nat)):Prop:=
 (∀w,(zeroValue t).run P w=.ok z w)/\∃fs,(∀w,(underlying t).run P w=.ok (.struct fs) w)/\
  (∀w,(fs.mapM λf=>(do pure (f.offset,<-sizeOf f.type):Sem (Nat×Nat))).run P w=.ok pl.toArray w)
theorem eS[Mode]{t:TypeId}{z:Value}{pl:List (Nat×Nat)}{l:List (Nat×Operand)}{zs es:List D}{ty:TypeId}{pos:String}{af:Array Edge}{gd:Option (Nat×Bool)}(hd:d<n)
  (ht:jJ P t z pl)(hzs:z.cells=(zs.map bD).toArray)(hok:zOK zs=true)(hp:uA l=true){ps:List (Nat×AV)}(hps:st.parts l=ps)(he:xA (λi=>pl[i]?) zs ps=some es):
  aY P n ⟨some d,.build t l.toArray,ty,pos,af,gd⟩ st (st.set d (.agg es)):=
 cA rfl hd λA M w0 a w hR=>by
  replace hps:=hps.symm;subst hps
  obtain⟨hz,fs,hu,hm⟩:=ht;obtain⟨cs',h1,h2⟩:=aYf (place:=λi=>pl[i]?) (cs:=(zs.map bD).toArray) (by simpa using zF (w:=w) (X:=aV A st.objs) hok) (aAl hR hp) he;refine⟨.agg cs',?_,.agg h2⟩;have h1':Instr.fill (λx=>pl.toArray[x]?) (zs.map bD).toArray (l.map λ(i,x)=>(i,a.eval x))=some cs':=by
   rw[<-h1];congr 1;funext i;simp
  simp only[execOp,Instr.build,Sem.run_bind,hz,Result.andThen_ok,hu,hm,hzs,List.map_toArray];rw[h1']
  simp
def oD:Nat->List (Nat×AV)->Option (List (List D))
 |_,[]=>some []
 | k,(i,x)::l=>match x.cells,oD (k+1) l with
  |some ds,some rows=>if i=k then some (ds::rows) else none
  |_,_=>none
theorem aUl{w:World}{X:bE}{size len:Nat}:∀{l:List (Nat×AV)} {l':List (Nat×Value)} {k:Nat} {rows:List (List D)} {cs:Array Value} {pre:List Value},PRs w X l l'->oD k l=some rows->(∀r∈rows,r.length=size)->
  cs.toList.take (k*size)=pre->cs.size=len*size->k+rows.length=len->
  ∃vs,Instr.fill (λi=>some (i*size,size)) cs l'=some (pre++vs).toArray/\DRs w X rows.flatten vs
 | [],[],k,rows,cs,pre,_,hr,hs,hpre,hc,hl=>by
  simp only[oD,Option.some.injEq] at hr;subst hr;refine⟨[],?_,trivial⟩;simp only[List.length_nil,Nat.add_zero] at hl;subst hl;rw[List.take_of_length_le (by simp[hc])] at hpre;subst hpre
  simp[Instr.fill]
 | (i, x)::l,(j,v)::l',k,rows,cs,pre,hp,hr,hs,hpre,hc,hl=>by
  obtain⟨rfl,hv,hp'⟩:=hp;simp only[oD] at hr;split at hr
  ·rename_i ds rows' hcell hrows'
   split at hr
   ·rename_i hik
    subst hik;cases hr;have hes:=hv.cells hcell;have hle:=hes.length;have hds:ds.length=size:=hs ds (by simp);simp only[Array.length_toList] at hle;simp only[List.length_cons] at hl;have hsum:i*size+size<=cs.size:=by rw[hc,<-hl,<-Nat.succ_mul];exact Nat.mul_le_mul_right _ (by omega)
    have hfold:=aKs v.cells.toList (i*size) 0 cs (by simp;omega);simp only[Nat.add_zero] at hfold;have harr:v.cells.zipIdx.foldl (λcs (c,j)=>cs.setIfInBounds (i*size+j) c) cs=(cs.toList.take (i*size)++v.cells.toList++cs.toList.drop (i*size+v.cells.toList.length)).toArray:=by
     apply Array.ext';rw[<-hfold,<-Array.foldl_toList]
     simp
    have hvl:v.cells.toList.length=size:=by simp;omega
    obtain⟨vs,h1,h2⟩:=aUl (l:=l) (l':=l') (k:=i+1) (len:=len) (size:=size) (cs:=(cs.toList.take (i*size)++v.cells.toList++cs.toList.drop (i*size+v.cells.toList.length)).toArray) (pre:=pre++v.cells.toList) hp' hrows'
     (λr h=>hs r (List.mem_cons_of_mem _ h)) (by
      rw[<-hpre,Nat.succ_mul,List.toList_toArray];rw[List.take_append_of_le_length (by simp;omega),List.take_of_length_le (by simp;omega)])
     (by simp only[List.size_toArray,List.length_append,List.length_take,List.length_drop,hvl,Array.length_toList];omega) (by omega)
    refine⟨v.cells.toList++vs,?_,by simpa using hes.append h2⟩;simp only[Instr.fill,harr];rw[if_neg (by simp;omega),<-List.append_assoc];exact h1
   ·cases hr
  ·cases hr
theorem yZ{t e k:Nat}(ht:iL P t e k){z:Value}(hz:∀w,(zeroValue e).run P w=.ok z w)(hzc:z.cells.size=k){w:World}{X:bE}{len:Nat}{l:List (Nat×AV)}{l':List (Nat×Value)}{rows:List (List D)}
  (hp:PRs w X l l')(hr:oD 0 l=some rows)(hk:∀r∈rows,r.length=k)(hl:rows.length=len)(hb:len*k<=16777216):
  ∃vs,(Instr.buildSlice t len l'.toArray).run P w=.ok (.slice (some ⟨w.heap.size,0,none⟩) len len) (w.alloc (.cells vs.toArray e))/\DRs w X rows.flatten vs:=by
 have key:∀cs:Array Value,cs.size=len*k->
   ∃vs,Instr.fill (λi=>some (i*k,k)) cs l'=some vs.toArray/\DRs w X rows.flatten vs:=by
  intro cs hcs;obtain⟨vs,h1,h2⟩:=aUl (l:=l) (l':=l') (k:=0) (len:=len) (size:=k) (cs:=cs) (pre:=[]) hp hr hk (by simp) hcs (by omega);exact⟨vs,by simpa using h1,h2⟩
 by_cases h0:len*k=0
 ·obtain⟨vs,h1,h2⟩:=key ((Array.range (len*k)).map ((#[]:Array Value)[·%(#[]:Array Value).size]!)) (by simp);refine⟨vs,?_,h2⟩;simp only[Instr.buildSlice,Sem.run_bind,ht.1,ht.2,Result.andThen_ok,h0,if_true];rw[h0,Array.range_zero',Array.map_empty] at h1
  simp[newRow,Array.range_zero',h1]
 ·obtain⟨vs,h1,h2⟩:=key ((Array.range (len*k)).map (z.cells[·% z.cells.size]!)) (by simp);refine⟨vs,?_,h2⟩;simp only[Instr.buildSlice,Sem.run_bind,ht.1,ht.2,Result.andThen_ok,h0,if_false,show¬2^24<len*k by omega,gt_iff_lt,hz,Sem.run_pure,h1]
  simp[newRow]
end
end Go.Am
end
end
