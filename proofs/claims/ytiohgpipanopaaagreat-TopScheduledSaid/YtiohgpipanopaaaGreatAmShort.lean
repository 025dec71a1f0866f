/- Rules for printed proofs, in few words. -/
import Derived.Test.YtiohgpipanopaaaGreatAmClose
import Derived.Test.YtiohgpipanopaaaGreatAmDraw2
import Derived.Test.YtiohgpipanopaaaGreatAmFam2
import Derived.Test.YtiohgpipanopaaaGreatAmPlain
import Derived.KernelRfl
namespace Go.Am
section
variable{P:Program}{n d:Nat}{st st':St}{Q:Exit->St->Prop}{ops:Array Oper}{rest:List Oper}{op:Op}{x y:Operand}{ty:TypeId}{pos:String}{af:Array Edge}{gd:Option (Nat×Bool)}{dst:Option Nat}
abbrev uw(n:Int):Int:=IntKind.u64.wrap n
def mp2(e:Nat->AV):List Nat->List AV
 |[]=>[]
 |k::l=>e k::mp2 e l
theorem ae{e e':Nat->AV}:∀{l:List Nat},l.map e=mp2 e' l->AllEq e e' l
 |[],_=>trivial
 |_::_,h=>⟨(List.cons.inj h).1,ae (List.cons.inj h).2⟩
theorem bns{α β:Type}{x:Option α}{f:α->Option β}{r:β}(h:x.bind f=some r):∃a,x=some a/\f a=some r:=Option.bind_eq_some_iff.1 h
theorem sIn{α:Type}{a b:α}(h:some a=some b):a=b:=Option.some.inj h
theorem bb{a b:Bool}(h:(a&&b)=true):a=true/\b=true:=by simpa using h
theorem to(h:bB P n ⟨dst,op,ty,pos,af,none⟩ st st')(hr:TrL P n ops rest st' Q):TrL P n ops (⟨dst,op,ty,pos,af,none⟩::rest) st Q:=tr1 rfl h hr
theorem tm(v:AV)(hr:TrL P n ops rest (st.set d v) Q)(hx:st.eval x=v:=by exact rfl)(hd:(Nat.blt d n&&cT x)=true:=by exact rfl):TrL P n ops (⟨some d,.move x,ty,pos,af,none⟩::rest) st Q:=
 tr1 rfl (aKr (aE (bb hd).1) hx (bb hd).2) hr
theorem ta(v:AV)(hr:TrL P n ops rest (st.set d v) Q)(hx:st.eval x=v:=by exact rfl)(hd:(Nat.blt d n&&cT x)=true:=by exact rfl):TrL P n ops (⟨some d,.assign x,ty,pos,af,none⟩::rest) st Q:=
 tr1 rfl (aHs (aE (bb hd).1) hx (bb hd).2) hr
theorem tk{j s:Nat}{b c:Bool}(hc:c=b)(h:bB P n ⟨dst,op,ty,pos,af,some (j,b)⟩ st st')(hr:TrL P n ops rest st' Q)(hj:(ops[j]?).bind (·.dst)=some s:=by exact rfl)(hb:st.env s=.d (.lit (.bool c)):=by exact rfl)(hs:Nat.blt s n=true:=by exact rfl):
  TrL P n ops (⟨dst,op,ty,pos,af,some (j,b)⟩::rest) st Q:=bGl rfl hj (aE hs) hb hc h hr
theorem sm(v:AV)(hx:st.eval x=v:=by exact rfl)(hd:(Nat.blt d n&&cT x)=true:=by exact rfl):bB P n ⟨some d,.move x,ty,pos,af,gd⟩ st (st.set d v):=aKr (aE (bb hd).1) hx (bb hd).2
theorem sf{t f off b o j:Nat}(hx:st.eval x=.bp b o j)(hf:cK P t f off)(hd:Nat.blt d n=true:=by exact rfl):bB P n ⟨some d,.fieldAddr t x f,ty,pos,af,gd⟩ st (st.set d (.bp b o (j+off))):=aBz (aE hd) hx hf
theorem sl(i:Nat){t:TypeId}{b o j:Nat}{ds:List D}{d0:D}(hx:st.eval x=.bp b o j)(ho:st.objs[i]?=some (.box b o ds))(hj:ds[j]?=some d0)(ht:iF P t)(hd:Nat.blt d n=true:=by exact rfl):bB P n ⟨some d,.load t x,ty,pos,af,gd⟩ st (st.set d (.d d0)):=aAo (aE hd) hx ho hj ht
theorem sla(i:Nat)(es:List D){t:TypeId}{b o j m:Nat}{ds:List D}(hx:st.eval x=.bp b o j)(ho:st.objs[i]?=some (.box b o ds))(ht:kL P t m)(he:(ds.drop j).take m=es:=by exact rfl)(hl:es.length=m:=by exact rfl)(hd:Nat.blt d n=true:=by exact rfl):bB P n ⟨some d,.load t x,ty,pos,af,gd⟩ st (st.set d (.agg es)):=aFs (aE hd) hx ho ht he hl
theorem sar{o:BinOp}{k:IntKind}{p q r:Int}{t u:TypeId}(hx:st.eval x=.d (.lit (.int k p)))(hy:st.eval y=.d (.lit (.int k q)))(hr:aUn o p q=some r)(hd:Nat.blt d n=true:=by exact rfl):bB P n ⟨some d,.binOp o t x y u,ty,pos,af,gd⟩ st (st.set d (.d (.lit (.int k (k.wrap r))))):=aDc (aE hd) hx hy hr
theorem scm{o:BinOp}{k:IntKind}{p q:Int}{r:Bool}{t u:TypeId}(hx:st.eval x=.d (.lit (.int k p)))(hy:st.eval y=.d (.lit (.int k q)))(hr:cmp o p q=some r)(hd:Nat.blt d n=true:=by exact rfl):bB P n ⟨some d,.binOp o t x y u,ty,pos,af,gd⟩ st (st.set d (.b r)):=aFp (aE hd) hx hy hr
theorem spt(v:AV){c:Operand}{b:Bool}(hb:b=true)(hc:st.eval c=.d (.lit (.bool b)):=by exact rfl)(hx:st.eval x=v:=by exact rfl)(hd:(Nat.blt d n&&cT x)=true:=by exact rfl):bB P n ⟨some d,.pick c x y,ty,pos,af,gd⟩ st (st.set d v):=aUa (aE (bb hd).1) hc hb hx (bb hd).2
theorem spf(v:AV){c:Operand}{b:Bool}(hb:b=false)(hc:st.eval c=.d (.lit (.bool b)):=by exact rfl)(hx:st.eval y=v:=by exact rfl)(hd:(Nat.blt d n&&cT y)=true:=by exact rfl):bB P n ⟨some d,.pick c x y,ty,pos,af,gd⟩ st (st.set d v):=aTz (aE (bb hd).1) hc hb hx (bb hd).2
theorem sst(i:Nat){t m b o0 j:Nat}{ds es:List D}{v:AV}(hx:st.eval x=.bp b o0 j)(ho:st.objs[i]?=some (.box b o0 ds))(ht:∀w,(sizeOf t).run P w=.ok m w)(ds':List D)(hy:st.eval y=v:=by exact rfl)(hv:v.cells=some es:=by exact rfl)(hm:es.length=m:=by exact rfl)(hk:(cT y&&(Nat.blt 0 m&&Nat.ble (j+es.length) ds.length))=true:=by exact rfl)(hds:gD ds j es=ds':=by exact rfl):
  bB P n ⟨none,.store t x y,ty,pos,af,gd⟩ st (st.put1 i (.box b o0 ds')):=vG hx ho hy (bb hk).1 hv ht hm (aE (bb (bb hk).2).1) (Nat.le_of_ble_eq_true (bb (bb hk).2).2) hds
theorem sn{b:Bool}{t:TypeId}(hx:st.eval x=.d (.lit (.bool b)))(hd:Nat.blt d n=true:=by exact rfl):bB P n ⟨some d,.unOp .not t x,ty,pos,af,gd⟩ st (st.set d (.b (!b))):=bCc (aE hd) hx
theorem six{t e k:Nat}{rows:List (List D)}{kd:IntKind}{p:Int}{ds:List D}(hx:st.eval x=.d (.sl k rows))(hy:st.eval y=.d (.lit (.int kd p)))(ht:gU P t e k)(hp:idx rows p=some ds)(hd:Nat.blt d n=true:=by exact rfl):bB P n ⟨some d,.indexAddr t x y,ty,pos,af,gd⟩ st (st.set d (.cp ds)):=aFr (aE hd) hx hy ht hp
theorem slc{t:TypeId}{d0:D}{ds:List D}(hx:st.eval x=.cp (d0::ds))(ht:iF P t)(hd:Nat.blt d n=true:=by exact rfl):bB P n ⟨some d,.load t x,ty,pos,af,gd⟩ st (st.set d (.d d0)):=aIw (aE hd) hx ht
theorem aDe(es:List D){t:TypeId}{m:Nat}{ds:List D}(hx:st.eval x=.cp ds)(ht:kL P t m)(he:ds.take m=es:=by exact rfl)(hl:es.length=m:=by exact rfl)(hd:Nat.blt d n=true:=by exact rfl):bB P n ⟨some d,.load t x,ty,pos,af,gd⟩ st (st.set d (.agg es)):=aFt (aE hd) hx ht he hl
theorem sfc(es:List D){t f off:Nat}{ds:List D}(hx:st.eval x=.cp ds)(hf:cK P t f off)(he:(ds.drop off).take es.length=es:=by exact rfl)(hd:Nat.blt d n=true:=by exact rfl):bB P n ⟨some d,.fieldAddr t x f,ty,pos,af,gd⟩ st (st.set d (.cp es)):=aFq (aE hd) hx hf he
theorem sex{vs:List AV}{i:Nat}{v:AV}(hx:st.eval x=.tup vs)(hv:vs[i]?=some v)(hd:Nat.blt d n=true:=by exact rfl):bB P n ⟨some d,.extract x i,ty,pos,af,gd⟩ st (st.set d v):=aIv (aE hd) hx hv
theorem sle{α:Type}{k:Nat}{f:α->List D}{xs:List α}{t:TypeId}{e kk:Nat}(hx:st.eval x=.d (.sl k (xs.map f)))(ht:gU P t e kk)(hd:Nat.blt d n=true:=by exact rfl):bB P n ⟨some d,.call {callee:=.builtin .len,args:= #[x],argTypes:= #[t]},ty,pos,af,gd⟩ st (st.set d (.i xs.length)):=bFv (aE hd) hx ht
theorem sc{i:FuncId}{l:List Operand}{args args':List AV}{r:AV}{ts:Array TypeId}(hc:∀args w,(callFunc i args).run P w=.ok (.enter i args) w)(hf:Fn P i args' r)(hb:BVs st.objs args args')(ha:st.evals l=args:=by exact rfl)(hd:(Nat.blt d n&&(mW l&&r.isLit))=true:=by exact rfl):
  bB P n ⟨some d,.call {callee:=.value (.func i),args:=l.toArray,argTypes:=ts},ty,pos,af,gd⟩ st (st.set d r):=fZ (aE (bb hd).1) (.func _ _ hc) ha (bb (bb hd).2).1 hb hf (bb (bb hd).2).2
theorem scr{i:FuncId}{l:List Operand}{args:List AV}{r:AV}{ts:Array TypeId}(hc:∀args w,(callFunc i args).run P w=.ok (.enter i args) w)(hf:Fn P i args r)(ha:st.evals l=args:=by exact rfl)(hd:(Nat.blt d n&&(mW l&&r.isLit))=true:=by exact rfl):
  bB P n ⟨some d,.call {callee:=.value (.func i),args:=l.toArray,argTypes:=ts},ty,pos,af,gd⟩ st (st.set d r):=fZ (aE (bb hd).1) (.func _ _ hc) ha (bb (bb hd).2).1 (BVs.refl _ _) hf (bb (bb hd).2).2
theorem tih{c:Operand}{X Y:Code}{b:Bool}{α:Type}{e f:Option α}{r:α}(h:(bif b then e else f)=some r)(ht:b=true->e=some r->Tr P n X st Q)(hf:b=false->f=some r->Tr P n Y st Q)(hc:st.eval c=.d (.lit (.bool b)):=by exact rfl):Tr P n (.cond c X Y) st Q:=
 aDt hc (λk=>ht k (aCq k h)) (λk=>hf k (aJy k h))
theorem tip{c:Operand}{X Y:Code}{b:Bool}{e f:Prop}(h:bif b then e else f)(ht:b=true->e->Tr P n X st Q)(hf:b=false->f->Tr P n Y st Q)(hc:st.eval c=.d (.lit (.bool b)):=by exact rfl):Tr P n (.cond c X Y) st Q:=
 aDt hc (λk=>ht k (bIa k h)) (λk=>hf k (bHz k h))
omit op x y ty pos af gd dst in
theorem bch{p:Prop}{b:Bool}{α:Type}{e f:Option α}{r:α}(h:(bif b then e else f)=some r)(h1:b=true->e=some r->p)(h2:b=false->f=some r->p):p:=aUo b (λk=>h1 k (aCq k h)) (λk=>h2 k (aJy k h))
variable{tab:Tab}{yes no:List Nat}{base:Nat->AV}{objs:List MO}{v:AV}{o:Oper}
def zev(tab:Tab)(yes no:List Nat)(base:Nat->AV):Operand->Option AV
 | .tmp k=>ovL tab yes no base k
 | .const v=>some (.d (.lit v))
 | .global _=>some .any
 | .func f=>some (.fn f [])
theorem eF{S:Nat->Bool}(hS:Knows S yes no)(h:zev tab yes no base x=some v):St.eval ⟨ov tab S base,objs⟩ x=v:=by
 cases x with
 |tmp k=>exact aU hS h
 |const u=>exact Option.some.inj h
 |global g=>exact Option.some.inj h
 |func f=>exact Option.some.inj h
theorem go{i:Nat}(h:∀S,Knows S yes no->bB P n ⟨dst,op,ty,pos,af,none⟩ ⟨ov tab S base,objs⟩ ⟨upd (ov tab S base) d v,objs⟩)(hf:find tab d=some (i,v):=by exact rfl):
  ∀S,Knows S yes no->∃d v,find tab d=some (i,v)/\GStep P n ops ⟨dst,op,ty,pos,af,none⟩ ⟨ov tab S base,objs⟩ ⟨upd (ov tab S base) d v,objs⟩:=λS hS=>bUf hf (bRp rfl (h S hS))
theorem gt{i j s:Nat}{b c:Bool}(hc:c=b)(h:∀S,Knows S yes no->bB P n ⟨dst,op,ty,pos,af,some (j,b)⟩ ⟨ov tab S base,objs⟩ ⟨upd (ov tab S base) d v,objs⟩)(hf:find tab d=some (i,v):=by exact rfl)(hj:(ops[j]?).bind (·.dst)=some s:=by exact rfl)(hb:ovL tab yes no base s=some (.d (.lit (.bool c))):=by exact rfl)(hs:Nat.blt s n=true:=by exact rfl):
  ∀S,Knows S yes no->∃d v,find tab d=some (i,v)/\GStep P n ops ⟨dst,op,ty,pos,af,some (j,b)⟩ ⟨ov tab S base,objs⟩ ⟨upd (ov tab S base) d v,objs⟩:=λS hS=>bUf hf (bYf rfl hj (aE hs) (aWh (objs:=objs) hS hb) hc (h S hS))
theorem gp{i j s:Nat}{b c:Bool}(hc:c=!b)(hf:find tab d=some (i,.tup []):=by exact rfl)(hj:(ops[j]?).bind (·.dst)=some s:=by exact rfl)(hb:ovL tab yes no base s=some (.d (.lit (.bool c))):=by exact rfl)(hs:(Nat.blt d n&&Nat.blt s n)=true:=by exact rfl):
  ∀S,Knows S yes no->∃e v,find tab e=some (i,v)/\GStep P n ops ⟨some d,op,ty,pos,af,some (j,b)⟩ ⟨ov tab S base,objs⟩ ⟨upd (ov tab S base) e v,objs⟩:=λ_ hS=>⟨d,.tup [],hf,bYe rfl rfl (aE (bb hs).1) hj (aE (bb hs).2) (aWh (objs:=objs) hS hb) hc⟩
theorem gq{i j s:Nat}{b:Bool}(hf:find tab d=some (i,.tup []):=by exact rfl)(hj:(ops[j]?).bind (·.dst)=some s:=by exact rfl)(hb:ovL tab yes no base s=some (.tup []):=by exact rfl)(hs:(Nat.blt d n&&Nat.blt s n)=true:=by exact rfl):
  ∀S,Knows S yes no->∃e v,find tab e=some (i,v)/\GStep P n ops ⟨some d,op,ty,pos,af,some (j,b)⟩ ⟨ov tab S base,objs⟩ ⟨upd (ov tab S base) e v,objs⟩:=λ_ hS=>⟨d,.tup [],hf,bVr rfl rfl (aE (bb hs).1) hj (aE (bb hs).2) (aWh (objs:=objs) hS hb)⟩
theorem zm(v:AV)(hx:zev tab yes no base x=some v:=by exact rfl)(hd:(Nat.blt d n&&cT x)=true:=by exact rfl):∀S,Knows S yes no->bB P n ⟨some d,.move x,ty,pos,af,gd⟩ ⟨ov tab S base,objs⟩ ⟨upd (ov tab S base) d v,objs⟩:=λ_ hS=>aKr (aE (bb hd).1) (eF hS hx) (bb hd).2
theorem za(v:AV)(hx:zev tab yes no base x=some v:=by exact rfl)(hd:(Nat.blt d n&&cT x)=true:=by exact rfl):∀S,Knows S yes no->bB P n ⟨some d,.assign x,ty,pos,af,gd⟩ ⟨ov tab S base,objs⟩ ⟨upd (ov tab S base) d v,objs⟩:=λ_ hS=>aHs (aE (bb hd).1) (eF hS hx) (bb hd).2
theorem zf{t f off b o j:Nat}(hx:zev tab yes no base x=some (.bp b o j))(hf:cK P t f off)(hd:Nat.blt d n=true:=by exact rfl):∀S,Knows S yes no->bB P n ⟨some d,.fieldAddr t x f,ty,pos,af,gd⟩ ⟨ov tab S base,objs⟩ ⟨upd (ov tab S base) d (.bp b o (j+off)),objs⟩:=λ_ hS=>aBz (aE hd) (eF hS hx) hf
theorem zl(i:Nat){t:TypeId}{b o j:Nat}{ds:List D}{d0:D}(hx:zev tab yes no base x=some (.bp b o j))(ho:objs[i]?=some (.box b o ds))(hj:ds[j]?=some d0)(ht:iF P t)(hd:Nat.blt d n=true:=by exact rfl):∀S,Knows S yes no->bB P n ⟨some d,.load t x,ty,pos,af,gd⟩ ⟨ov tab S base,objs⟩ ⟨upd (ov tab S base) d (.d d0),objs⟩:=λ_ hS=>aAo (aE hd) (eF hS hx) ho hj ht
theorem zla(i:Nat)(es:List D){t:TypeId}{b o j m:Nat}{ds:List D}(hx:zev tab yes no base x=some (.bp b o j))(ho:objs[i]?=some (.box b o ds))(ht:kL P t m)(he:(ds.drop j).take m=es:=by exact rfl)(hl:es.length=m:=by exact rfl)(hd:Nat.blt d n=true:=by exact rfl):∀S,Knows S yes no->bB P n ⟨some d,.load t x,ty,pos,af,gd⟩ ⟨ov tab S base,objs⟩ ⟨upd (ov tab S base) d (.agg es),objs⟩:=λ_ hS=>aFs (aE hd) (eF hS hx) ho ht he hl
theorem zar{o:BinOp}{k:IntKind}{p q r:Int}{t u:TypeId}(hx:zev tab yes no base x=some (.d (.lit (.int k p))))(hy:zev tab yes no base y=some (.d (.lit (.int k q))))(hr:aUn o p q=some r)(hd:Nat.blt d n=true:=by exact rfl):∀S,Knows S yes no->bB P n ⟨some d,.binOp o t x y u,ty,pos,af,gd⟩ ⟨ov tab S base,objs⟩ ⟨upd (ov tab S base) d (.d (.lit (.int k (k.wrap r)))),objs⟩:=λ_ hS=>aDc (aE hd) (eF hS hx) (eF hS hy) hr
theorem zcm{o:BinOp}{k:IntKind}{p q:Int}{r:Bool}{t u:TypeId}(hx:zev tab yes no base x=some (.d (.lit (.int k p))))(hy:zev tab yes no base y=some (.d (.lit (.int k q))))(hr:cmp o p q=some r)(hd:Nat.blt d n=true:=by exact rfl):∀S,Knows S yes no->bB P n ⟨some d,.binOp o t x y u,ty,pos,af,gd⟩ ⟨ov tab S base,objs⟩ ⟨upd (ov tab S base) d (.b r),objs⟩:=λ_ hS=>aFp (aE hd) (eF hS hx) (eF hS hy) hr
theorem zpt(v:AV){c:Operand}{b:Bool}(hb:b=true)(hc:zev tab yes no base c=some (.d (.lit (.bool b))):=by exact rfl)(hx:zev tab yes no base x=some v:=by exact rfl)(hd:(Nat.blt d n&&cT x)=true:=by exact rfl):∀S,Knows S yes no->bB P n ⟨some d,.pick c x y,ty,pos,af,gd⟩ ⟨ov tab S base,objs⟩ ⟨upd (ov tab S base) d v,objs⟩:=λ_ hS=>aUa (aE (bb hd).1) (eF hS hc) hb (eF hS hx) (bb hd).2
theorem zpf(v:AV){c:Operand}{b:Bool}(hb:b=false)(hc:zev tab yes no base c=some (.d (.lit (.bool b))):=by exact rfl)(hx:zev tab yes no base y=some v:=by exact rfl)(hd:(Nat.blt d n&&cT y)=true:=by exact rfl):∀S,Knows S yes no->bB P n ⟨some d,.pick c x y,ty,pos,af,gd⟩ ⟨ov tab S base,objs⟩ ⟨upd (ov tab S base) d v,objs⟩:=λ_ hS=>aTz (aE (bb hd).1) (eF hS hc) hb (eF hS hx) (bb hd).2
theorem zn{b:Bool}{t:TypeId}(hx:zev tab yes no base x=some (.d (.lit (.bool b))))(hd:Nat.blt d n=true:=by exact rfl):∀S,Knows S yes no->bB P n ⟨some d,.unOp .not t x,ty,pos,af,gd⟩ ⟨ov tab S base,objs⟩ ⟨upd (ov tab S base) d (.b (!b)),objs⟩:=λ_ hS=>bCc (aE hd) (eF hS hx)
theorem zix{t e k:Nat}{rows:List (List D)}{kd:IntKind}{p:Int}{ds:List D}(hx:zev tab yes no base x=some (.d (.sl k rows)))(hy:zev tab yes no base y=some (.d (.lit (.int kd p))))(ht:gU P t e k)(hp:idx rows p=some ds)(hd:Nat.blt d n=true:=by exact rfl):∀S,Knows S yes no->bB P n ⟨some d,.indexAddr t x y,ty,pos,af,gd⟩ ⟨ov tab S base,objs⟩ ⟨upd (ov tab S base) d (.cp ds),objs⟩:=λ_ hS=>aFr (aE hd) (eF hS hx) (eF hS hy) ht hp
theorem zia(m:Nat){t e k:Nat}{v:Value}{e':Nat}{rows:List (List D)}{kd:IntKind}{p:Int}{ds:List D}(hx:zev tab yes no base x=some (.d (.lit v)))(ho:objs[m]?=some (.arr v e' k rows))(hy:zev tab yes no base y=some (.d (.lit (.int kd p))))(ht:gU P t e k)(hp:idx rows p=some ds)(hd:Nat.blt d n=true:=by exact rfl):∀S,Knows S yes no->bB P n ⟨some d,.indexAddr t x y,ty,pos,af,gd⟩ ⟨ov tab S base,objs⟩ ⟨upd (ov tab S base) d (.ep v k p.toNat 0),objs⟩:=λ_ hS=>mK (aE hd) (eF hS hx) ho (eF hS hy) ht hp
theorem zlc{t:TypeId}{d0:D}{ds:List D}(hx:zev tab yes no base x=some (.cp (d0::ds)))(ht:iF P t)(hd:Nat.blt d n=true:=by exact rfl):∀S,Knows S yes no->bB P n ⟨some d,.load t x,ty,pos,af,gd⟩ ⟨ov tab S base,objs⟩ ⟨upd (ov tab S base) d (.d d0),objs⟩:=λ_ hS=>aIw (aE hd) (eF hS hx) ht
theorem aQk(es:List D){t:TypeId}{m:Nat}{ds:List D}(hx:zev tab yes no base x=some (.cp ds))(ht:kL P t m)(he:ds.take m=es:=by exact rfl)(hl:es.length=m:=by exact rfl)(hd:Nat.blt d n=true:=by exact rfl):∀S,Knows S yes no->bB P n ⟨some d,.load t x,ty,pos,af,gd⟩ ⟨ov tab S base,objs⟩ ⟨upd (ov tab S base) d (.agg es),objs⟩:=λ_ hS=>aFt (aE hd) (eF hS hx) ht he hl
theorem zfc(es:List D){t f off:Nat}{ds:List D}(hx:zev tab yes no base x=some (.cp ds))(hf:cK P t f off)(he:(ds.drop off).take es.length=es:=by exact rfl)(hd:Nat.blt d n=true:=by exact rfl):∀S,Knows S yes no->bB P n ⟨some d,.fieldAddr t x f,ty,pos,af,gd⟩ ⟨ov tab S base,objs⟩ ⟨upd (ov tab S base) d (.cp es),objs⟩:=λ_ hS=>aFq (aE hd) (eF hS hx) hf he
theorem zex{vs:List AV}{i:Nat}{v:AV}(hx:zev tab yes no base x=some (.tup vs))(hv:vs[i]?=some v)(hd:Nat.blt d n=true:=by exact rfl):∀S,Knows S yes no->bB P n ⟨some d,.extract x i,ty,pos,af,gd⟩ ⟨ov tab S base,objs⟩ ⟨upd (ov tab S base) d v,objs⟩:=λ_ hS=>aIv (aE hd) (eF hS hx) hv
theorem zle{α:Type}{k:Nat}{f:α->List D}{xs:List α}{t:TypeId}{e kk:Nat}(hx:zev tab yes no base x=some (.d (.sl k (xs.map f))))(ht:gU P t e kk)(hd:Nat.blt d n=true:=by exact rfl):∀S,Knows S yes no->bB P n ⟨some d,.call {callee:=.builtin .len,args:= #[x],argTypes:= #[t]},ty,pos,af,gd⟩ ⟨ov tab S base,objs⟩ ⟨upd (ov tab S base) d (.i xs.length),objs⟩:=λ_ hS=>bFv (aE hd) (eF hS hx) ht
theorem dok{l:List Oper}{m:Nat}(yn:List (List Nat×List Nat))(h:AllSteps P n l.toArray tab st.env st.objs (l.take m) yn 0)(h1:(zT l&&(wZ (dC l l.length) m l.length&&(Nat.ble m l.length&&(mX tab&&((tab.all λx=>Nat.blt x.2.1 m)&&aQj (dC l l.length) m yn)))))=true:=by kernel_rfl):bCn P n l m tab st:=
 ⟨(bb h1).1,(bb (bb h1).2).1,(bb (bb (bb h1).2).2).1,(bb (bb (bb (bb h1).2).2).2).1,(bb (bb (bb (bb (bb h1).2).2).2).2).1,yn,(bb (bb (bb (bb (bb h1).2).2).2).2).2,h⟩
theorem ym{S:Nat->Bool}(hS:Knows S yes no)(v:AV)(hx:zev tab yes no base x=some v:=by exact rfl)(hd:(Nat.blt d n&&cT x)=true:=by exact rfl):bB P n ⟨some d,.move x,ty,pos,af,gd⟩ ⟨ov tab S base,objs⟩ ⟨upd (ov tab S base) d v,objs⟩:=aKr (aE (bb hd).1) (eF hS hx) (bb hd).2
theorem ya{S:Nat->Bool}(hS:Knows S yes no)(v:AV)(hx:zev tab yes no base x=some v:=by exact rfl)(hd:(Nat.blt d n&&cT x)=true:=by exact rfl):bB P n ⟨some d,.assign x,ty,pos,af,gd⟩ ⟨ov tab S base,objs⟩ ⟨upd (ov tab S base) d v,objs⟩:=aHs (aE (bb hd).1) (eF hS hx) (bb hd).2
theorem yf{S:Nat->Bool}(hS:Knows S yes no){t f off b o j:Nat}(hx:zev tab yes no base x=some (.bp b o j))(hf:cK P t f off)(hd:Nat.blt d n=true:=by exact rfl):bB P n ⟨some d,.fieldAddr t x f,ty,pos,af,gd⟩ ⟨ov tab S base,objs⟩ ⟨upd (ov tab S base) d (.bp b o (j+off)),objs⟩:=aBz (aE hd) (eF hS hx) hf
theorem yl{S:Nat->Bool}(hS:Knows S yes no)(i:Nat){t:TypeId}{b o j:Nat}{ds:List D}{d0:D}(hx:zev tab yes no base x=some (.bp b o j))(ho:objs[i]?=some (.box b o ds))(hj:ds[j]?=some d0)(ht:iF P t)(hd:Nat.blt d n=true:=by exact rfl):bB P n ⟨some d,.load t x,ty,pos,af,gd⟩ ⟨ov tab S base,objs⟩ ⟨upd (ov tab S base) d (.d d0),objs⟩:=aAo (aE hd) (eF hS hx) ho hj ht
theorem yla{S:Nat->Bool}(hS:Knows S yes no)(i:Nat)(es:List D){t:TypeId}{b o j m:Nat}{ds:List D}(hx:zev tab yes no base x=some (.bp b o j))(ho:objs[i]?=some (.box b o ds))(ht:kL P t m)(he:(ds.drop j).take m=es:=by exact rfl)(hl:es.length=m:=by exact rfl)(hd:Nat.blt d n=true:=by exact rfl):bB P n ⟨some d,.load t x,ty,pos,af,gd⟩ ⟨ov tab S base,objs⟩ ⟨upd (ov tab S base) d (.agg es),objs⟩:=aFs (aE hd) (eF hS hx) ho ht he hl
theorem yar{S:Nat->Bool}(hS:Knows S yes no){o:BinOp}{k:IntKind}{p q r:Int}{t u:TypeId}(hx:zev tab yes no base x=some (.d (.lit (.int k p))))(hy:zev tab yes no base y=some (.d (.lit (.int k q))))(hr:aUn o p q=some r)(hd:Nat.blt d n=true:=by exact rfl):bB P n ⟨some d,.binOp o t x y u,ty,pos,af,gd⟩ ⟨ov tab S base,objs⟩ ⟨upd (ov tab S base) d (.d (.lit (.int k (k.wrap r)))),objs⟩:=aDc (aE hd) (eF hS hx) (eF hS hy) hr
theorem yn{S:Nat->Bool}(hS:Knows S yes no){b:Bool}{t:TypeId}(hx:zev tab yes no base x=some (.d (.lit (.bool b))))(hd:Nat.blt d n=true:=by exact rfl):bB P n ⟨some d,.unOp .not t x,ty,pos,af,gd⟩ ⟨ov tab S base,objs⟩ ⟨upd (ov tab S base) d (.b (!b)),objs⟩:=bCc (aE hd) (eF hS hx)
theorem yix{S:Nat->Bool}(hS:Knows S yes no){t e k:Nat}{rows:List (List D)}{kd:IntKind}{p:Int}{ds:List D}(hx:zev tab yes no base x=some (.d (.sl k rows)))(hy:zev tab yes no base y=some (.d (.lit (.int kd p))))(ht:gU P t e k)(hp:idx rows p=some ds)(hd:Nat.blt d n=true:=by exact rfl):bB P n ⟨some d,.indexAddr t x y,ty,pos,af,gd⟩ ⟨ov tab S base,objs⟩ ⟨upd (ov tab S base) d (.cp ds),objs⟩:=aFr (aE hd) (eF hS hx) (eF hS hy) ht hp
theorem yia{S:Nat->Bool}(hS:Knows S yes no)(m:Nat){t e k:Nat}{v:Value}{e':Nat}{rows:List (List D)}{kd:IntKind}{p:Int}{ds:List D}(hx:zev tab yes no base x=some (.d (.lit v)))(ho:objs[m]?=some (.arr v e' k rows))(hy:zev tab yes no base y=some (.d (.lit (.int kd p))))(ht:gU P t e k)(hp:idx rows p=some ds)(hd:Nat.blt d n=true:=by exact rfl):bB P n ⟨some d,.indexAddr t x y,ty,pos,af,gd⟩ ⟨ov tab S base,objs⟩ ⟨upd (ov tab S base) d (.ep v k p.toNat 0),objs⟩:=mK (aE hd) (eF hS hx) ho (eF hS hy) ht hp
theorem ylc{S:Nat->Bool}(hS:Knows S yes no){t:TypeId}{d0:D}{ds:List D}(hx:zev tab yes no base x=some (.cp (d0::ds)))(ht:iF P t)(hd:Nat.blt d n=true:=by exact rfl):bB P n ⟨some d,.load t x,ty,pos,af,gd⟩ ⟨ov tab S base,objs⟩ ⟨upd (ov tab S base) d (.d d0),objs⟩:=aIw (aE hd) (eF hS hx) ht
theorem bMo{S:Nat->Bool}(hS:Knows S yes no)(es:List D){t:TypeId}{m:Nat}{ds:List D}(hx:zev tab yes no base x=some (.cp ds))(ht:kL P t m)(he:ds.take m=es:=by exact rfl)(hl:es.length=m:=by exact rfl)(hd:Nat.blt d n=true:=by exact rfl):bB P n ⟨some d,.load t x,ty,pos,af,gd⟩ ⟨ov tab S base,objs⟩ ⟨upd (ov tab S base) d (.agg es),objs⟩:=aFt (aE hd) (eF hS hx) ht he hl
theorem yfc{S:Nat->Bool}(hS:Knows S yes no)(es:List D){t f off:Nat}{ds:List D}(hx:zev tab yes no base x=some (.cp ds))(hf:cK P t f off)(he:(ds.drop off).take es.length=es:=by exact rfl)(hd:Nat.blt d n=true:=by exact rfl):bB P n ⟨some d,.fieldAddr t x f,ty,pos,af,gd⟩ ⟨ov tab S base,objs⟩ ⟨upd (ov tab S base) d (.cp es),objs⟩:=aFq (aE hd) (eF hS hx) hf he
theorem yex{S:Nat->Bool}(hS:Knows S yes no){vs:List AV}{i:Nat}{v:AV}(hx:zev tab yes no base x=some (.tup vs))(hv:vs[i]?=some v)(hd:Nat.blt d n=true:=by exact rfl):bB P n ⟨some d,.extract x i,ty,pos,af,gd⟩ ⟨ov tab S base,objs⟩ ⟨upd (ov tab S base) d v,objs⟩:=aIv (aE hd) (eF hS hx) hv
theorem yle{S:Nat->Bool}(hS:Knows S yes no){α:Type}{k:Nat}{f:α->List D}{xs:List α}{t:TypeId}{e kk:Nat}(hx:zev tab yes no base x=some (.d (.sl k (xs.map f))))(ht:gU P t e kk)(hd:Nat.blt d n=true:=by exact rfl):bB P n ⟨some d,.call {callee:=.builtin .len,args:= #[x],argTypes:= #[t]},ty,pos,af,gd⟩ ⟨ov tab S base,objs⟩ ⟨upd (ov tab S base) d (.i xs.length),objs⟩:=bFv (aE hd) (eF hS hx) ht
section
variable{tabX:Mk->Tab}{obs:Mk->List Stg}{X:Mk}{S:Nat->Bool}{i:Nat}
theorem xp(hw:∀X,mX (tabX X)=true)(h:bB P n ⟨dst,op,ty,pos,af,none⟩ ⟨ov (tabX X) S base,gV S (obs X)⟩ ⟨upd (ov (tabX X) S base) d v,gV S (obs X)⟩)(hf:find (tabX X) d=some (i,v):=by exact rfl)(hr:aKc i (obs X)=true:=by exact rfl):
  aIb P n ops ⟨dst,op,ty,pos,af,none⟩ tabX base obs i X S:=bZf hf (hw X) hr (bRp rfl h)
theorem xs(p:Nat){s0:Stg}{mo:MO}(hS:Knows S yes (i::no))(hp:(obs X)[p]?=some s0)(hm:aMs (i::yes) no s0.1 s0.2=some mo)(h:bB P n ⟨dst,op,ty,pos,af,none⟩ ⟨ov (tabX X) S base,gV S (obs X)⟩ ⟨ov (tabX X) S base,(gV S (obs X)).set p mo⟩)
  (hno:bG i no=false:=by exact rfl)(hn:aQt i (tabX X)=true:=by exact rfl)(ho:aHf i p (obs X)=true:=by exact rfl):aIb P n ops ⟨dst,op,ty,pos,af,none⟩ tabX base obs i X S:=bXe hS hno hn ho hp hm (bRp rfl h)
end
def dg:Nat->Nat->List Nat->List Nat
 |0,_,acc=>acc
 |f+1,n,acc=>bif Nat.beq n 0 then acc else dg f (n/100) ((n % 100-1)::acc)
def yc(n:Nat):List Nat×List Nat:=(dg 40 n [],[])
def yx(n:Nat×Nat):List Nat×List Nat:=(dg 40 n.1 [],dg 40 n.2 [])
theorem dk{l:List Oper}{m:Nat}(c:List Nat)(h:AllSteps P n l.toArray tab st.env st.objs (l.take m) (c.map yc) 0)(h1:(zT l&&(wZ (dC l l.length) m l.length&&(Nat.ble m l.length&&(mX tab&&((tab.all λx=>Nat.blt x.2.1 m)&&aQj (dC l l.length) m (c.map yc))))))=true:=by kernel_rfl):bCn P n l m tab st:=dok (c.map yc) h h1
theorem xok{l:List Oper}{m q:Nat}{tabX:Mk->Tab}{obs:Mk->List Stg}(c:List (Nat×Nat))(h:XSteps P n l.toArray tabX st.env obs (l.take m) (c.map yx) 0)(h1:(zT l&&(wZ (dC l l.length) m l.length&&(Nat.ble m l.length&&aQj (dC l l.length) m (c.map yx))))=true:=by kernel_rfl)
  (h2:∀X,(mX (tabX X)&&(((tabX X).all λx=>Nat.blt x.2.1 m)&&aEc m (obs X)))=true:=by exactλ_=>by kernel_rfl)(h3:∀X,gV (λ_=>false) (obs X)=st.objs++List.replicate q nob:=by exactλ_=>rfl):XOK P n l m q tabX obs st:=
 ⟨(bb h1).1,(bb (bb h1).2).1,(bb (bb (bb h1).2).2).1,λX=>(bb (h2 X)).1,λX=>(bb (bb (h2 X)).2).1,λX=>(bb (bb (h2 X)).2).2,h3,_,(bb (bb (bb h1).2).2).2,h⟩
theorem oT{f:FuncId}{fn:Func}{c:Code}{args:List AV}{r:AV}{N:Nat}(rs:List ResultVar)(hf:P.funcs[f]?=some fn)(hr:fn.results=rs.toArray)(hn:fn.ntmps=N)(h:Tr P N c ⟨entry args,[]⟩ (λe st=>e=.ret/\∃r',aLb st rs r'/\r'=r/\st.objs=[]))(hb:fn.body=some c:=by exact rfl)(ha:Nat.ble args.length N=true:=by exact rfl):Fn P f args r:=
 Fn.of_tr hf hb hr hn (Nat.le_of_ble_eq_true ha) h
theorem rt(h:Q .ret st:=by exact⟨rfl,_,.one _,rfl,rfl⟩):Tr P n .ret st Q:=cG h
end
end Go.Am
