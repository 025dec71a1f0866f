/- Several texts, one behind the other. -/
import Derived.Test.YtammglnfelkbpaaGreatDoorAmClose
import Derived.Test.YtammglnfelkbpaaGreatDoorAmMap
import Derived.Test.YtammglnfelkbpaaGreatDoorAmX3
import Derived.Test.YtammglnfelkbpaaGreatDoorAmPlain
import Derived.KernelRfl
import Derived.Test.YtammglnfelkbpaaGreatDoorAmFam2
import Derived.Test.YtammglnfelkbpaaGreatDoorAmByt
section
section
namespace Go.Am
section
variable{P:Program}{n d:Nat}{st st':St}{Q:Exit->St->Prop}{ops:Array Oper}{rest:List Oper}{op:Op}{x y:Operand}{ty:TypeId}{pos:String}{af:Array Edge}{gd:Option (Nat×Bool)}{dst:Option Nat}
def mp2(e:Nat->AV):List Nat->List AV
 |[]=>[]
 |k::l=>e k::mp2 e l
theorem ae{e e':Nat->AV}:∀{l:List Nat},l.map e=mp2 e' l->AllEq e e' l
 |[],_=>trivial
 |_::_,h=>⟨(List.cons.inj h).1,ae (List.cons.inj h).2⟩
theorem bns{α β:Type}{x:Option α}{f:α->Option β}{r:β}(h:x.bind f=some r):∃a,x=some a/\f a=some r:=aE7.1 h
theorem sIn{α:Type}{a b:α}(h:some a=some b):a=b:=z7 h
theorem bb{a b:Bool}(h:(a&&b)=true):a=true/\b=true:=by simpa using h
theorem to[Mode](h:aQ P n ⟨dst,op,ty,pos,af,none⟩ st st')(hr:TrL P n ops rest st' Q):TrL P n ops (⟨dst,op,ty,pos,af,none⟩::rest) st Q:=tr1 rfl h hr
theorem tm[Mode](v:AV)(hr:TrL P n ops rest (st.set d v) Q)(hx:st.eval x=v:=by exact rfl)(hd:(Nat.blt d n&&cD x)=true:=by exact rfl):TrL P n ops (⟨some d,.move x,ty,pos,af,none⟩::rest) st Q:=
 tr1 rfl (dI (aC (bb hd).1) hx (bb hd).2) hr
theorem ta[Mode](v:AV)(hr:TrL P n ops rest (st.set d v) Q)(hx:st.eval x=v:=by exact rfl)(hd:(Nat.blt d n&&cD x)=true:=by exact rfl):TrL P n ops (⟨some d,.assign x,ty,pos,af,none⟩::rest) st Q:=
 tr1 rfl (cS (aC (bb hd).1) hx (bb hd).2) hr
theorem tk[Mode]{j s:Nat}{b c:Bool}(hc:c=b)(h:aQ P n ⟨dst,op,ty,pos,af,some (j,b)⟩ st st')(hr:TrL P n ops rest st' Q)(hj:(ops[j]?).bind (·.dst)=some s:=by exact rfl)(hb:st.env s=.d (.lit (.bool c)):=by exact rfl)(hs:Nat.blt s n=true:=by exact rfl):
  TrL P n ops (⟨dst,op,ty,pos,af,some (j,b)⟩::rest) st Q:=vJ rfl hj (aC hs) hb hc h hr
theorem sm[Mode](v:AV)(hx:st.eval x=v:=by exact rfl)(hd:(Nat.blt d n&&cD x)=true:=by exact rfl):aQ P n ⟨some d,.move x,ty,pos,af,gd⟩ st (st.set d v):=dI (aC (bb hd).1) hx (bb hd).2
theorem sf[Mode]{t f off b o j:Nat}(hx:st.eval x=.bp b o j)(hf:cQ P t f off)(hd:Nat.blt d n=true:=by exact rfl):aQ P n ⟨some d,.fieldAddr t x f,ty,pos,af,gd⟩ st (st.set d (.bp b o (j+off))):=jU (aC hd) hx hf
theorem sl[Mode](i:Nat){t:TypeId}{b o j:Nat}{ds:List D}{d0:D}(hx:st.eval x=.bp b o j)(ho:st.objs[i]?=some (.box b o ds))(hj:ds[j]?=some d0)(ht:fN P t)(hd:Nat.blt d n=true:=by exact rfl):aQ P n ⟨some d,.load t x,ty,pos,af,gd⟩ st (st.set d (.d d0)):=qQ (aC hd) hx ho hj ht
theorem sla[Mode](i:Nat)(es:List D){t:TypeId}{b o j m:Nat}{ds:List D}(hx:st.eval x=.bp b o j)(ho:st.objs[i]?=some (.box b o ds))(ht:gJ P t m)(he:(ds.drop j).take m=es:=by exact rfl)(hl:es.length=m:=by exact rfl)(hd:Nat.blt d n=true:=by exact rfl):aQ P n ⟨some d,.load t x,ty,pos,af,gd⟩ st (st.set d (.agg es)):=sV (aC hd) hx ho ht he hl
theorem sar[Mode]{o:BinOp}{k:IntKind}{p q r:Int}{t u:TypeId}(hx:st.eval x=.d (.lit (.int k p)))(hy:st.eval y=.d (.lit (.int k q)))(hr:aXx o p q=some r)(hd:Nat.blt d n=true:=by exact rfl):aQ P n ⟨some d,.binOp o t x y u,ty,pos,af,gd⟩ st (st.set d (.d (.lit (.int k (k.wrap r))))):=yX (aC hd) hx hy hr
theorem scm[Mode]{o:BinOp}{k:IntKind}{p q:Int}{r:Bool}{t u:TypeId}(hx:st.eval x=.d (.lit (.int k p)))(hy:st.eval y=.d (.lit (.int k q)))(hr:cmp o p q=some r)(hd:Nat.blt d n=true:=by exact rfl):aQ P n ⟨some d,.binOp o t x y u,ty,pos,af,gd⟩ st (st.set d (.b r)):=wU (aC hd) hx hy hr
theorem spt[Mode](v:AV){c:Operand}{b:Bool}(hb:b=true)(hc:st.eval c=.d (.lit (.bool b)):=by exact rfl)(hx:st.eval x=v:=by exact rfl)(hd:(Nat.blt d n&&cD x)=true:=by exact rfl):aQ P n ⟨some d,.pick c x y,ty,pos,af,gd⟩ st (st.set d v):=aEs (aC (bb hd).1) hc hb hx (bb hd).2
theorem spf[Mode](v:AV){c:Operand}{b:Bool}(hb:b=false)(hc:st.eval c=.d (.lit (.bool b)):=by exact rfl)(hx:st.eval y=v:=by exact rfl)(hd:(Nat.blt d n&&cD y)=true:=by exact rfl):aQ P n ⟨some d,.pick c x y,ty,pos,af,gd⟩ st (st.set d v):=aJr (aC (bb hd).1) hc hb hx (bb hd).2
theorem sst[Mode](i:Nat){t m b o0 j:Nat}{ds es:List D}{v:AV}(hx:st.eval x=.bp b o0 j)(ho:st.objs[i]?=some (.box b o0 ds))(ht:∀w,(sizeOf t).run P w=.ok m w)(ds':List D)(hy:st.eval y=v:=by exact rfl)(hv:v.cells=some es:=by exact rfl)(hm:es.length=m:=by exact rfl)(hk:(cD y&&(Nat.blt 0 m&&Nat.ble (j+es.length) ds.length))=true:=by exact rfl)(hds:dO ds j es=ds':=by exact rfl):
  aQ P n ⟨none,.store t x y,ty,pos,af,gd⟩ st (st.put1 i (.box b o0 ds')):=eY hx ho hy (bb hk).1 hv ht hm (aC (bb (bb hk).2).1) (f5 (bb (bb hk).2).2) hds
theorem sn[Mode]{b:Bool}{t:TypeId}(hx:st.eval x=.d (.lit (.bool b)))(hd:Nat.blt d n=true:=by exact rfl):aQ P n ⟨some d,.unOp .not t x,ty,pos,af,gd⟩ st (st.set d (.b (!b))):=bAp (aC hd) hx
theorem six[Mode]{t e k:Nat}{rows:List (List D)}{kd:IntKind}{p:Int}{ds:List D}(hx:st.eval x=.d (.sl k rows))(hy:st.eval y=.d (.lit (.int kd p)))(ht:mD P t e k)(hp:idx rows p=some ds)(hd:Nat.blt d n=true:=by exact rfl):aQ P n ⟨some d,.indexAddr t x y,ty,pos,af,gd⟩ st (st.set d (.cp ds)):=qJ (aC hd) hx hy ht hp
theorem slc[Mode]{t:TypeId}{d0:D}{ds:List D}(hx:st.eval x=.cp (d0::ds))(ht:fN P t)(hd:Nat.blt d n=true:=by exact rfl):aQ P n ⟨some d,.load t x,ty,pos,af,gd⟩ st (st.set d (.d d0)):=jM (aC hd) hx ht
theorem aDd[Mode](es:List D){t:TypeId}{m:Nat}{ds:List D}(hx:st.eval x=.cp ds)(ht:gJ P t m)(he:ds.take m=es:=by exact rfl)(hl:es.length=m:=by exact rfl)(hd:Nat.blt d n=true:=by exact rfl):aQ P n ⟨some d,.load t x,ty,pos,af,gd⟩ st (st.set d (.agg es)):=aPm (aC hd) hx ht he hl
theorem sfc[Mode](es:List D){t f off:Nat}{ds:List D}(hx:st.eval x=.cp ds)(hf:cQ P t f off)(he:(ds.drop off).take es.length=es:=by exact rfl)(hd:Nat.blt d n=true:=by exact rfl):aQ P n ⟨some d,.fieldAddr t x f,ty,pos,af,gd⟩ st (st.set d (.cp es)):=aHr (aC hd) hx hf he
theorem sex[Mode]{vs:List AV}{i:Nat}{v:AV}(hx:st.eval x=.tup vs)(hv:vs[i]?=some v)(hd:Nat.blt d n=true:=by exact rfl):aQ P n ⟨some d,.extract x i,ty,pos,af,gd⟩ st (st.set d v):=sU (aC hd) hx hv
theorem sle[Mode]{α:Type}{k:Nat}{f:α->List D}{xs:List α}{t:TypeId}{e kk:Nat}(hx:st.eval x=.d (.sl k (xs.map f)))(ht:mD P t e kk)(hd:Nat.blt d n=true:=by exact rfl):aQ P n ⟨some d,.call {callee:=.builtin .len,args:= #[x],argTypes:= #[t]},ty,pos,af,gd⟩ st (st.set d (.i xs.length)):=aMy (aC hd) hx ht
theorem sc[Mode]{i:FuncId}{l:List Operand}{args args':List AV}{r:AV}{ts:Array TypeId}(hc:∀args w,(callFunc i args).run P w=.ok (.enter i args) w)(hf:Fn P i args' r)(hb:BVs st.objs args args')(ha:st.evals l=args:=by exact rfl)(hd:(Nat.blt d n&&(fU l&&r.isLit))=true:=by exact rfl):
  aQ P n ⟨some d,.call {callee:=.value (.func i),args:=l.toArray,argTypes:=ts},ty,pos,af,gd⟩ st (st.set d r):=pB (aC (bb hd).1) (.func _ _ hc) ha (bb (bb hd).2).1 hb hf (bb (bb hd).2).2
theorem scr[Mode]{i:FuncId}{l:List Operand}{args:List AV}{r:AV}{ts:Array TypeId}(hc:∀args w,(callFunc i args).run P w=.ok (.enter i args) w)(hf:Fn P i args r)(ha:st.evals l=args:=by exact rfl)(hd:(Nat.blt d n&&(fU l&&r.isLit))=true:=by exact rfl):
  aQ P n ⟨some d,.call {callee:=.value (.func i),args:=l.toArray,argTypes:=ts},ty,pos,af,gd⟩ st (st.set d r):=pB (aC (bb hd).1) (.func _ _ hc) ha (bb (bb hd).2).1 (BVs.refl _ _) hf (bb (bb hd).2).2
theorem tih[Mode]{c:Operand}{X Y:Code}{b:Bool}{α:Type}{e f:Option α}{r:α}(h:(bif b then e else f)=some r)(ht:b=true->e=some r->Tr P n X st Q)(hf:b=false->f=some r->Tr P n Y st Q)(hc:st.eval c=.d (.lit (.bool b)):=by exact rfl):Tr P n (.cond c X Y) st Q:=
 aAe hc (λk=>ht k (aMe k h)) (λk=>hf k (aMd k h))
theorem tip[Mode]{c:Operand}{X Y:Code}{b:Bool}{e f:Prop}(h:bif b then e else f)(ht:b=true->e->Tr P n X st Q)(hf:b=false->f->Tr P n Y st Q)(hc:st.eval c=.d (.lit (.bool b)):=by exact rfl):Tr P n (.cond c X Y) st Q:=
 aAe hc (λk=>ht k (cFv k h)) (λk=>hf k (cFu k h))
omit op x y ty pos af gd dst in
theorem bch{p:Prop}{b:Bool}{α:Type}{e f:Option α}{r:α}(h:(bif b then e else f)=some r)(h1:b=true->e=some r->p)(h2:b=false->f=some r->p):p:=bPv b (λk=>h1 k (aMe k h)) (λk=>h2 k (aMd k h))
variable{tab:Tab}{yes no:List Nat}{base:Nat->AV}{objs:List MO}{v:AV}{o:Oper}
def zev(tab:Tab)(yes no:List Nat)(base:Nat->AV):Operand->Option AV
 | .tmp k=>ovL tab yes no base k
 | .const v=>some (.d (.lit v))
 | .global _=>some .any
 | .func f=>some (.fn f [])
theorem fL{S:Nat->Bool}(hS:Knows S yes no)(h:zev tab yes no base x=some v):St.eval ⟨ov tab S base,objs⟩ x=v:=by
 cases x with
 |tmp k=>exact bN hS h
 |const u=>exact z7 h
 |global g=>exact z7 h
 |func f=>exact z7 h
theorem go[Mode]{i:Nat}(h:∀S,Knows S yes no->aQ P n ⟨dst,op,ty,pos,af,none⟩ ⟨ov tab S base,objs⟩ ⟨upd (ov tab S base) d v,objs⟩)(hf:find tab d=some (i,v):=by exact rfl):
  ∀S,Knows S yes no->∃d v,find tab d=some (i,v)/\GStep P n ops ⟨dst,op,ty,pos,af,none⟩ ⟨ov tab S base,objs⟩ ⟨upd (ov tab S base) d v,objs⟩:=λS hS=>nW hf (gN rfl (h S hS))
theorem gt[Mode]{i j s:Nat}{b c:Bool}(hc:c=b)(h:∀S,Knows S yes no->aQ P n ⟨dst,op,ty,pos,af,some (j,b)⟩ ⟨ov tab S base,objs⟩ ⟨upd (ov tab S base) d v,objs⟩)(hf:find tab d=some (i,v):=by exact rfl)(hj:(ops[j]?).bind (·.dst)=some s:=by exact rfl)(hb:ovL tab yes no base s=some (.d (.lit (.bool c))):=by exact rfl)(hs:Nat.blt s n=true:=by exact rfl):
  ∀S,Knows S yes no->∃d v,find tab d=some (i,v)/\GStep P n ops ⟨dst,op,ty,pos,af,some (j,b)⟩ ⟨ov tab S base,objs⟩ ⟨upd (ov tab S base) d v,objs⟩:=λS hS=>nW hf (cKg rfl hj (aC hs) (aOz (objs:=objs) hS hb) hc (h S hS))
theorem gp[Mode]{i j s:Nat}{b c:Bool}(hc:c=!b)(hf:find tab d=some (i,.tup []):=by exact rfl)(hj:(ops[j]?).bind (·.dst)=some s:=by exact rfl)(hb:ovL tab yes no base s=some (.d (.lit (.bool c))):=by exact rfl)(hs:(Nat.blt d n&&Nat.blt s n)=true:=by exact rfl):
  ∀S,Knows S yes no->∃e v,find tab e=some (i,v)/\GStep P n ops ⟨some d,op,ty,pos,af,some (j,b)⟩ ⟨ov tab S base,objs⟩ ⟨upd (ov tab S base) e v,objs⟩:=λ_ hS=>⟨d,.tup [],hf,cKf rfl rfl (aC (bb hs).1) hj (aC (bb hs).2) (aOz (objs:=objs) hS hb) hc⟩
theorem zm[Mode](v:AV)(hx:zev tab yes no base x=some v:=by exact rfl)(hd:(Nat.blt d n&&cD x)=true:=by exact rfl):∀S,Knows S yes no->aQ P n ⟨some d,.move x,ty,pos,af,gd⟩ ⟨ov tab S base,objs⟩ ⟨upd (ov tab S base) d v,objs⟩:=λ_ hS=>dI (aC (bb hd).1) (fL hS hx) (bb hd).2
theorem za[Mode](v:AV)(hx:zev tab yes no base x=some v:=by exact rfl)(hd:(Nat.blt d n&&cD x)=true:=by exact rfl):∀S,Knows S yes no->aQ P n ⟨some d,.assign x,ty,pos,af,gd⟩ ⟨ov tab S base,objs⟩ ⟨upd (ov tab S base) d v,objs⟩:=λ_ hS=>cS (aC (bb hd).1) (fL hS hx) (bb hd).2
theorem zf[Mode]{t f off b o j:Nat}(hx:zev tab yes no base x=some (.bp b o j))(hf:cQ P t f off)(hd:Nat.blt d n=true:=by exact rfl):∀S,Knows S yes no->aQ P n ⟨some d,.fieldAddr t x f,ty,pos,af,gd⟩ ⟨ov tab S base,objs⟩ ⟨upd (ov tab S base) d (.bp b o (j+off)),objs⟩:=λ_ hS=>jU (aC hd) (fL hS hx) hf
theorem zl[Mode](i:Nat){t:TypeId}{b o j:Nat}{ds:List D}{d0:D}(hx:zev tab yes no base x=some (.bp b o j))(ho:objs[i]?=some (.box b o ds))(hj:ds[j]?=some d0)(ht:fN P t)(hd:Nat.blt d n=true:=by exact rfl):∀S,Knows S yes no->aQ P n ⟨some d,.load t x,ty,pos,af,gd⟩ ⟨ov tab S base,objs⟩ ⟨upd (ov tab S base) d (.d d0),objs⟩:=λ_ hS=>qQ (aC hd) (fL hS hx) ho hj ht
theorem zla[Mode](i:Nat)(es:List D){t:TypeId}{b o j m:Nat}{ds:List D}(hx:zev tab yes no base x=some (.bp b o j))(ho:objs[i]?=some (.box b o ds))(ht:gJ P t m)(he:(ds.drop j).take m=es:=by exact rfl)(hl:es.length=m:=by exact rfl)(hd:Nat.blt d n=true:=by exact rfl):∀S,Knows S yes no->aQ P n ⟨some d,.load t x,ty,pos,af,gd⟩ ⟨ov tab S base,objs⟩ ⟨upd (ov tab S base) d (.agg es),objs⟩:=λ_ hS=>sV (aC hd) (fL hS hx) ho ht he hl
theorem zar[Mode]{o:BinOp}{k:IntKind}{p q r:Int}{t u:TypeId}(hx:zev tab yes no base x=some (.d (.lit (.int k p))))(hy:zev tab yes no base y=some (.d (.lit (.int k q))))(hr:aXx o p q=some r)(hd:Nat.blt d n=true:=by exact rfl):∀S,Knows S yes no->aQ P n ⟨some d,.binOp o t x y u,ty,pos,af,gd⟩ ⟨ov tab S base,objs⟩ ⟨upd (ov tab S base) d (.d (.lit (.int k (k.wrap r)))),objs⟩:=λ_ hS=>yX (aC hd) (fL hS hx) (fL hS hy) hr
theorem zcm[Mode]{o:BinOp}{k:IntKind}{p q:Int}{r:Bool}{t u:TypeId}(hx:zev tab yes no base x=some (.d (.lit (.int k p))))(hy:zev tab yes no base y=some (.d (.lit (.int k q))))(hr:cmp o p q=some r)(hd:Nat.blt d n=true:=by exact rfl):∀S,Knows S yes no->aQ P n ⟨some d,.binOp o t x y u,ty,pos,af,gd⟩ ⟨ov tab S base,objs⟩ ⟨upd (ov tab S base) d (.b r),objs⟩:=λ_ hS=>wU (aC hd) (fL hS hx) (fL hS hy) hr
theorem zpt[Mode](v:AV){c:Operand}{b:Bool}(hb:b=true)(hc:zev tab yes no base c=some (.d (.lit (.bool b))):=by exact rfl)(hx:zev tab yes no base x=some v:=by exact rfl)(hd:(Nat.blt d n&&cD x)=true:=by exact rfl):∀S,Knows S yes no->aQ P n ⟨some d,.pick c x y,ty,pos,af,gd⟩ ⟨ov tab S base,objs⟩ ⟨upd (ov tab S base) d v,objs⟩:=λ_ hS=>aEs (aC (bb hd).1) (fL hS hc) hb (fL hS hx) (bb hd).2
theorem zpf[Mode](v:AV){c:Operand}{b:Bool}(hb:b=false)(hc:zev tab yes no base c=some (.d (.lit (.bool b))):=by exact rfl)(hx:zev tab yes no base y=some v:=by exact rfl)(hd:(Nat.blt d n&&cD y)=true:=by exact rfl):∀S,Knows S yes no->aQ P n ⟨some d,.pick c x y,ty,pos,af,gd⟩ ⟨ov tab S base,objs⟩ ⟨upd (ov tab S base) d v,objs⟩:=λ_ hS=>aJr (aC (bb hd).1) (fL hS hc) hb (fL hS hx) (bb hd).2
theorem zix[Mode]{t e k:Nat}{rows:List (List D)}{kd:IntKind}{p:Int}{ds:List D}(hx:zev tab yes no base x=some (.d (.sl k rows)))(hy:zev tab yes no base y=some (.d (.lit (.int kd p))))(ht:mD P t e k)(hp:idx rows p=some ds)(hd:Nat.blt d n=true:=by exact rfl):∀S,Knows S yes no->aQ P n ⟨some d,.indexAddr t x y,ty,pos,af,gd⟩ ⟨ov tab S base,objs⟩ ⟨upd (ov tab S base) d (.cp ds),objs⟩:=λ_ hS=>qJ (aC hd) (fL hS hx) (fL hS hy) ht hp
theorem zia[Mode](m:Nat){t e k:Nat}{v:Value}{e':Nat}{rows:List (List D)}{kd:IntKind}{p:Int}{ds:List D}(hx:zev tab yes no base x=some (.d (.lit v)))(ho:objs[m]?=some (.arr v e' k rows))(hy:zev tab yes no base y=some (.d (.lit (.int kd p))))(ht:mD P t e k)(hp:idx rows p=some ds)(hd:Nat.blt d n=true:=by exact rfl):∀S,Knows S yes no->aQ P n ⟨some d,.indexAddr t x y,ty,pos,af,gd⟩ ⟨ov tab S base,objs⟩ ⟨upd (ov tab S base) d (.ep v k p.toNat 0),objs⟩:=λ_ hS=>aVo (aC hd) (fL hS hx) ho (fL hS hy) ht hp
theorem zlc[Mode]{t:TypeId}{d0:D}{ds:List D}(hx:zev tab yes no base x=some (.cp (d0::ds)))(ht:fN P t)(hd:Nat.blt d n=true:=by exact rfl):∀S,Knows S yes no->aQ P n ⟨some d,.load t x,ty,pos,af,gd⟩ ⟨ov tab S base,objs⟩ ⟨upd (ov tab S base) d (.d d0),objs⟩:=λ_ hS=>jM (aC hd) (fL hS hx) ht
theorem zfc[Mode](es:List D){t f off:Nat}{ds:List D}(hx:zev tab yes no base x=some (.cp ds))(hf:cQ P t f off)(he:(ds.drop off).take es.length=es:=by exact rfl)(hd:Nat.blt d n=true:=by exact rfl):∀S,Knows S yes no->aQ P n ⟨some d,.fieldAddr t x f,ty,pos,af,gd⟩ ⟨ov tab S base,objs⟩ ⟨upd (ov tab S base) d (.cp es),objs⟩:=λ_ hS=>aHr (aC hd) (fL hS hx) hf he
theorem zex[Mode]{vs:List AV}{i:Nat}{v:AV}(hx:zev tab yes no base x=some (.tup vs))(hv:vs[i]?=some v)(hd:Nat.blt d n=true:=by exact rfl):∀S,Knows S yes no->aQ P n ⟨some d,.extract x i,ty,pos,af,gd⟩ ⟨ov tab S base,objs⟩ ⟨upd (ov tab S base) d v,objs⟩:=λ_ hS=>sU (aC hd) (fL hS hx) hv
theorem zle[Mode]{α:Type}{k:Nat}{f:α->List D}{xs:List α}{t:TypeId}{e kk:Nat}(hx:zev tab yes no base x=some (.d (.sl k (xs.map f))))(ht:mD P t e kk)(hd:Nat.blt d n=true:=by exact rfl):∀S,Knows S yes no->aQ P n ⟨some d,.call {callee:=.builtin .len,args:= #[x],argTypes:= #[t]},ty,pos,af,gd⟩ ⟨ov tab S base,objs⟩ ⟨upd (ov tab S base) d (.i xs.length),objs⟩:=λ_ hS=>aMy (aC hd) (fL hS hx) ht
theorem dok[Mode]{l:List Oper}{m:Nat}(yn:List (List Nat×List Nat))(h:AllSteps P n l.toArray tab st.env st.objs (l.take m) yn 0)(h1:(zE l&&(vL (cW l l.length) m l.length&&(Nat.ble m l.length&&(lW tab&&((tab.all λx=>Nat.blt x.2.1 m)&&aQa (cW l l.length) m yn)))))=true:=by kernel_rfl):bGj P n l m tab st:=
 ⟨(bb h1).1,(bb (bb h1).2).1,(bb (bb (bb h1).2).2).1,(bb (bb (bb (bb h1).2).2).2).1,(bb (bb (bb (bb (bb h1).2).2).2).2).1,yn,(bb (bb (bb (bb (bb h1).2).2).2).2).2,h⟩
theorem ym[Mode]{S:Nat->Bool}(hS:Knows S yes no)(v:AV)(hx:zev tab yes no base x=some v:=by exact rfl)(hd:(Nat.blt d n&&cD x)=true:=by exact rfl):aQ P n ⟨some d,.move x,ty,pos,af,gd⟩ ⟨ov tab S base,objs⟩ ⟨upd (ov tab S base) d v,objs⟩:=dI (aC (bb hd).1) (fL hS hx) (bb hd).2
theorem ya[Mode]{S:Nat->Bool}(hS:Knows S yes no)(v:AV)(hx:zev tab yes no base x=some v:=by exact rfl)(hd:(Nat.blt d n&&cD x)=true:=by exact rfl):aQ P n ⟨some d,.assign x,ty,pos,af,gd⟩ ⟨ov tab S base,objs⟩ ⟨upd (ov tab S base) d v,objs⟩:=cS (aC (bb hd).1) (fL hS hx) (bb hd).2
theorem yf[Mode]{S:Nat->Bool}(hS:Knows S yes no){t f off b o j:Nat}(hx:zev tab yes no base x=some (.bp b o j))(hf:cQ P t f off)(hd:Nat.blt d n=true:=by exact rfl):aQ P n ⟨some d,.fieldAddr t x f,ty,pos,af,gd⟩ ⟨ov tab S base,objs⟩ ⟨upd (ov tab S base) d (.bp b o (j+off)),objs⟩:=jU (aC hd) (fL hS hx) hf
theorem yl[Mode]{S:Nat->Bool}(hS:Knows S yes no)(i:Nat){t:TypeId}{b o j:Nat}{ds:List D}{d0:D}(hx:zev tab yes no base x=some (.bp b o j))(ho:objs[i]?=some (.box b o ds))(hj:ds[j]?=some d0)(ht:fN P t)(hd:Nat.blt d n=true:=by exact rfl):aQ P n ⟨some d,.load t x,ty,pos,af,gd⟩ ⟨ov tab S base,objs⟩ ⟨upd (ov tab S base) d (.d d0),objs⟩:=qQ (aC hd) (fL hS hx) ho hj ht
theorem yla[Mode]{S:Nat->Bool}(hS:Knows S yes no)(i:Nat)(es:List D){t:TypeId}{b o j m:Nat}{ds:List D}(hx:zev tab yes no base x=some (.bp b o j))(ho:objs[i]?=some (.box b o ds))(ht:gJ P t m)(he:(ds.drop j).take m=es:=by exact rfl)(hl:es.length=m:=by exact rfl)(hd:Nat.blt d n=true:=by exact rfl):aQ P n ⟨some d,.load t x,ty,pos,af,gd⟩ ⟨ov tab S base,objs⟩ ⟨upd (ov tab S base) d (.agg es),objs⟩:=sV (aC hd) (fL hS hx) ho ht he hl
theorem yar[Mode]{S:Nat->Bool}(hS:Knows S yes no){o:BinOp}{k:IntKind}{p q r:Int}{t u:TypeId}(hx:zev tab yes no base x=some (.d (.lit (.int k p))))(hy:zev tab yes no base y=some (.d (.lit (.int k q))))(hr:aXx o p q=some r)(hd:Nat.blt d n=true:=by exact rfl):aQ P n ⟨some d,.binOp o t x y u,ty,pos,af,gd⟩ ⟨ov tab S base,objs⟩ ⟨upd (ov tab S base) d (.d (.lit (.int k (k.wrap r)))),objs⟩:=yX (aC hd) (fL hS hx) (fL hS hy) hr
theorem yn[Mode]{S:Nat->Bool}(hS:Knows S yes no){b:Bool}{t:TypeId}(hx:zev tab yes no base x=some (.d (.lit (.bool b))))(hd:Nat.blt d n=true:=by exact rfl):aQ P n ⟨some d,.unOp .not t x,ty,pos,af,gd⟩ ⟨ov tab S base,objs⟩ ⟨upd (ov tab S base) d (.b (!b)),objs⟩:=bAp (aC hd) (fL hS hx)
theorem ylc[Mode]{S:Nat->Bool}(hS:Knows S yes no){t:TypeId}{d0:D}{ds:List D}(hx:zev tab yes no base x=some (.cp (d0::ds)))(ht:fN P t)(hd:Nat.blt d n=true:=by exact rfl):aQ P n ⟨some d,.load t x,ty,pos,af,gd⟩ ⟨ov tab S base,objs⟩ ⟨upd (ov tab S base) d (.d d0),objs⟩:=jM (aC hd) (fL hS hx) ht
theorem cMp[Mode]{S:Nat->Bool}(hS:Knows S yes no)(es:List D){t:TypeId}{m:Nat}{ds:List D}(hx:zev tab yes no base x=some (.cp ds))(ht:gJ P t m)(he:ds.take m=es:=by exact rfl)(hl:es.length=m:=by exact rfl)(hd:Nat.blt d n=true:=by exact rfl):aQ P n ⟨some d,.load t x,ty,pos,af,gd⟩ ⟨ov tab S base,objs⟩ ⟨upd (ov tab S base) d (.agg es),objs⟩:=aPm (aC hd) (fL hS hx) ht he hl
theorem yfc[Mode]{S:Nat->Bool}(hS:Knows S yes no)(es:List D){t f off:Nat}{ds:List D}(hx:zev tab yes no base x=some (.cp ds))(hf:cQ P t f off)(he:(ds.drop off).take es.length=es:=by exact rfl)(hd:Nat.blt d n=true:=by exact rfl):aQ P n ⟨some d,.fieldAddr t x f,ty,pos,af,gd⟩ ⟨ov tab S base,objs⟩ ⟨upd (ov tab S base) d (.cp es),objs⟩:=aHr (aC hd) (fL hS hx) hf he
theorem yex[Mode]{S:Nat->Bool}(hS:Knows S yes no){vs:List AV}{i:Nat}{v:AV}(hx:zev tab yes no base x=some (.tup vs))(hv:vs[i]?=some v)(hd:Nat.blt d n=true:=by exact rfl):aQ P n ⟨some d,.extract x i,ty,pos,af,gd⟩ ⟨ov tab S base,objs⟩ ⟨upd (ov tab S base) d v,objs⟩:=sU (aC hd) (fL hS hx) hv
section
variable{tabX:Mk->Tab}{obs:Mk->List Stg}{X:Mk}{S:Nat->Bool}{i:Nat}
theorem xp[Mode](hw:∀X,lW (tabX X)=true)(h:aQ P n ⟨dst,op,ty,pos,af,none⟩ ⟨ov (tabX X) S base,gS S (obs X)⟩ ⟨upd (ov (tabX X) S base) d v,gS S (obs X)⟩)(hf:find (tabX X) d=some (i,v):=by exact rfl)(hr:aMi i (obs X)=true:=by exact rfl):
  aKe P n ops ⟨dst,op,ty,pos,af,none⟩ tabX base obs i X S:=aDj hf (hw X) hr (gN rfl h)
theorem xs[Mode](p:Nat){s0:Stg}{mo:MO}(hS:Knows S yes (i::no))(hp:(obs X)[p]?=some s0)(hm:aOy (i::yes) no s0.1 s0.2=some mo)(h:aQ P n ⟨dst,op,ty,pos,af,none⟩ ⟨ov (tabX X) S base,gS S (obs X)⟩ ⟨ov (tabX X) S base,(gS S (obs X)).set p mo⟩)
  (hno:aY i no=false:=by exact rfl)(hn:aTs i (tabX X)=true:=by exact rfl)(ho:aJh i p (obs X)=true:=by exact rfl):aKe P n ops ⟨dst,op,ty,pos,af,none⟩ tabX base obs i X S:=cIm hS hno hn ho hp hm (gN rfl h)
end
def dg:Nat->Nat->List Nat->List Nat
 |0,_,acc=>acc
 |f+1,n,acc=>bif Nat.beq n 0 then acc else dg f (n/100) ((n % 100-1)::acc)
def yc(n:Nat):List Nat×List Nat:=(dg 40 n [],[])
def yx(n:Nat×Nat):List Nat×List Nat:=(dg 40 n.1 [],dg 40 n.2 [])
theorem dk[Mode]{l:List Oper}{m:Nat}(c:List Nat)(h:AllSteps P n l.toArray tab st.env st.objs (l.take m) (c.map yc) 0)(h1:(zE l&&(vL (cW l l.length) m l.length&&(Nat.ble m l.length&&(lW tab&&((tab.all λx=>Nat.blt x.2.1 m)&&aQa (cW l l.length) m (c.map yc))))))=true:=by kernel_rfl):bGj P n l m tab st:=dok (c.map yc) h h1
theorem xok[Mode]{l:List Oper}{m q:Nat}{tabX:Mk->Tab}{obs:Mk->List Stg}(c:List (Nat×Nat))(h:XSteps P n l.toArray tabX st.env obs (l.take m) (c.map yx) 0)(h1:(zE l&&(vL (cW l l.length) m l.length&&(Nat.ble m l.length&&aQa (cW l l.length) m (c.map yx))))=true:=by kernel_rfl)
  (h2:∀X,(lW (tabX X)&&(((tabX X).all λx=>Nat.blt x.2.1 m)&&aFv m (obs X)))=true:=by exactλ_=>by kernel_rfl)(h3:∀X,gS (λ_=>false) (obs X)=st.objs++List.replicate q nob:=by exactλ_=>rfl):XOK P n l m q tabX obs st:=
 ⟨(bb h1).1,(bb (bb h1).2).1,(bb (bb (bb h1).2).2).1,λX=>(bb (h2 X)).1,λX=>(bb (bb (h2 X)).2).1,λX=>(bb (bb (h2 X)).2).2,h3,_,(bb (bb (bb h1).2).2).2,h⟩
theorem oT[Mode]{f:FuncId}{fn:Func}{c:Code}{args:List AV}{r:AV}{N:Nat}(rs:List ResultVar)(hf:P.funcs[f]?=some fn)(hr:fn.results=rs.toArray)(hn:fn.ntmps=N)(h:Tr P N c ⟨entry args,[]⟩ (λe st=>e=.ret/\∃r',aNj st rs r'/\r'=r/\st.objs=[]))(hb:fn.body=some c:=by exact rfl)(ha:Nat.ble args.length N=true:=by exact rfl):Fn P f args r:=
 Fn.of_tr hf hb hr hn (f5 ha) h
theorem rt[Mode](h:Q .ret st:=by exact⟨rfl,_,.one _,rfl,rfl⟩):Tr P n .ret st Q:=eK h
end
end Go.Am
end
section
section
section
namespace Go.Am
class FA (P:Program) (s f:Nat) (off:outParam Nat):Prop where h:cQ P s f off
class I1 (P:Program) (t:TypeId):Prop where h:fN P t
class SO (P:Program) (t:TypeId) (e k:outParam Nat):Prop where h:mD P t e k
structure tO(k:Nat)(p:Prop):Prop where h:p
structure Wr(p:Prop):Prop where h:p
theorem bd0{p:Prop}(z:Wr p):tO 0 p:=⟨z.h⟩
section
variable{P:Program}{n d k:Nat}{st st':St}{Q:Exit->St->Prop}{N:St->Prop}{ops:Array Oper}{rest:List Oper}{op:Op}{ty:TypeId}{pos:String}{af:Array Edge}{dst:Option Nat}
theorem q1[Mode](h:aQ P n ⟨dst,op,ty,pos,af,none⟩ st st')(hr:tO k (TrL P n ops rest st' Q)):tO (k+1) (TrL P n ops (⟨dst,op,ty,pos,af,none⟩::rest) st Q):=⟨tr1 rfl h hr.h⟩
theorem q2[Mode]{j s:Nat}{b c:Bool}(hj:(ops[j]?).bind (·.dst)=some s)(hb:st.env s=.d (.lit (.bool c)))(hc:c=b)(hs:Nat.blt s n=true)(h:aQ P n ⟨dst,op,ty,pos,af,some (j,b)⟩ st st')(hr:tO k (TrL P n ops rest st' Q)):
  tO (k+1) (TrL P n ops (⟨dst,op,ty,pos,af,some (j,b)⟩::rest) st Q):=⟨vJ rfl hj (aC hs) hb hc h hr.h⟩
theorem q3[Mode]{j s:Nat}{b c:Bool}(hj:(ops[j]?).bind (·.dst)=some s)(hb:st.env s=.d (.lit (.bool c)))(hc:c=!b)(hs:(Nat.blt d n&&Nat.blt s n)=true)(hr:tO k (TrL P n ops rest (st.set d (.tup [])) Q)):
  tO (k+1) (TrL P n ops (⟨some d,op,ty,pos,af,some (j,b)⟩::rest) st Q):=⟨aNe rfl rfl (aC (bb hs).1) hj (aC (bb hs).2) hb hc hr.h⟩
theorem q4[Mode]{j s:Nat}{b:Bool}(hj:(ops[j]?).bind (·.dst)=some s)(hb:st.env s=.tup [])(hs:(Nat.blt d n&&Nat.blt s n)=true)(hr:tO k (TrL P n ops rest (st.set d (.tup [])) Q)):
  tO (k+1) (TrL P n ops (⟨some d,op,ty,pos,af,some (j,b)⟩::rest) st Q):=⟨bKv rfl rfl (aC (bb hs).1) hj (aC (bb hs).2) hb hr.h⟩
theorem q5[Mode](h:tO k (N st)):tO (k+1) (TrL P n ops [] st (mM N Q)):=⟨aZ h.h⟩
theorem q6[Mode]{id:Nat}{l:List Oper}(h:tO k (TrL P n l.toArray l st Q)):tO (k+1) (Tr P n (.region id l.toArray false) st Q):=⟨aV h.h⟩
theorem q7[Mode]{x y:Code}(h:tO k (Tr P n x st (mM (λs=>Tr P n y s Q) Q))):tO (k+1) (Tr P n (.seq x y) st Q):=⟨bH h.h⟩
theorem q8[Mode](h:tO k (N st)):tO (k+1) (Tr P n .skip st (mM N Q)):=⟨aBk h.h⟩
theorem q9[Mode]{id:Nat}{c:Code}(h:tO k (Tr P n c st (zM id N (mM N Q)))):tO (k+1) (Tr P n (.block id c) st (mM N Q)):=⟨aDh h.h⟩
end
theorem aLg{l:List MO}{m:MO}{i:Nat}(h:l[i]?=some m):l[i]?=some m:=h
theorem au (k : Nat){G G':Prop}(hr:G')(h:Wr G'->tO k G:=by
    intro z
    repeat (first
      |refine q7 ?_
      |refine q6 ?_
      |refine q5 ?_
      |refine q8 ?_
      |refine q9 ?_
      | (first
         |apply q1
         | (apply q2
            case hj=>exact rfl
            case hb=>exact rfl
            case hc=>first|assumption|exact rfl
            case hs=>exact rfl)
         case h =>first
           | (with_reducible apply dI
              case hd=>exact aC rfl
              case hk=>exact rfl
              case hx=>first
                |exact(rfl:_=AV.d _)
                |exact(rfl:_=AV.tup _)
                |exact(rfl:_=AV.agg _)
                |exact(rfl:_=AV.bp _ _ _)
                |exact(rfl:_=AV.cp _))
           | (with_reducible apply cS
              case hd=>exact aC rfl
              case hk=>exact rfl
              case hx=>first
                |exact(rfl:_=AV.d _)
                |exact(rfl:_=AV.agg _)
                |exact(rfl:_=AV.bp _ _ _)
                |exact(rfl:_=AV.cp _)
                |exact(rfl:_=AV.tup _))
           | (with_reducible apply wU
              case hd=>exact aC rfl
              case hx=>exact rfl
              case hy=>exact rfl
              case hr=>exact rfl)
           | (with_reducible apply yX
              case hd=>exact aC rfl
              case hx=>exact rfl
              case hy=>exact rfl
              case hr=>exact rfl)
           | (with_reducible apply jU
              case hd=>exact aC rfl
              case hx=>exact rfl
              case hf=>exact FA.h)
           | (with_reducible apply qQ
              case hd=>exact aC rfl
              case hx=>exact rfl
              case ho=>first
                |exact aLg rfl (i:=0)
                |exact aLg rfl (i:=1)
                |exact aLg rfl (i:=2)
                |exact aLg rfl (i:=3)
                |exact aLg rfl (i:=4)
                |exact aLg rfl (i:=5)
                |exact aLg rfl (i:=6)
                |exact aLg rfl (i:=7)
                |exact aLg rfl (i:=8)
                |exact aLg rfl (i:=9)
              case hj=>exact rfl
              case ht=>exact I1.h)
           |exact sex rfl rfl
           |exact scm rfl rfl rfl
           |exact sar rfl rfl rfl
           |exact sn rfl
           |exact sle rfl SO.h
           |exact spt (.d _) (by assumption)
           |exact spf (.d _) (by assumption)
           |exact slc rfl I1.h
         case' hr=>skip)
      |refine q4 rfl rfl rfl ?_
      |refine q3 rfl rfl (by first|assumption|rfl) rfl ?_)
    exact bd0 z):G:=(h ⟨hr⟩).h
end Go.Am
end
section
namespace Go.Am
def cKr(h:Nat):Option MO:=bif Nat.ble 1000000000 h then some (.arr (.slice none 0 0) ((h-1000000000)/1000) ((h-1000000000) % 1000) []) else none
theorem bMy{l n:List MO}{i:Nat}{m:MO}(h:l[i]?=some m):(l++n)[i]?=some m:=by
 rw[m9 (g7.1 h).1];exact h
theorem RVc.app{P:Program}{env:Nat->AV}{l n:List MO}{x:ResultVar}{r:AV}(h:RVc P ⟨env,l⟩ x r):RVc P ⟨env,l++n⟩ x r:=by
 cases h with
 |tmp t h=>exact .tmp t h
 |cell a t ha ho ht he hl=>exact .cell a t ha (bMy ho) ht he hl
 |cell1 a t ha ho ht he=>exact .cell1 a t ha (bMy ho) ht he
theorem ResW.app{P:Program}{env:Nat->AV}{l n:List MO}{rs:List ResultVar}{r:AV}(h:ResW P ⟨env,l⟩ rs r):ResW P ⟨env,l++n⟩ rs r:=by
 cases h with
 |one h=>exact .one h.app
 |two h h2=>exact .two h.app h2.app
 |three h h2 h3=>exact .three h.app h2.app h3.app
 |none=>exact .none
def aBr(l:List (Nat×Nat×Value)):lS:=λh=>l.getD (h-100000) (0,0,undef)
theorem bPz{P:Program}{st st':St}{c:Callee}{l:List Operand}{f:FuncId}{a:List AV}(h:lH P st c l f a)(he:st'.env=st.env):lH P st' c l f a:=by
 have hev:∀l,st'.evals l=st.evals l:=by
  intro l;have:∀x,st'.eval x=st.eval x:=λx=>by cases x<;>simp[St.eval,he]
  induction l with
  |nil=>rfl
  |cons x l ih=>simp only[St.evals,this x,ih]
 cases h with
 |func f l h=>rw[<-hev l];exact .func f l h
 |clo t f caps l h ht=>rw[<-hev l];exact .clo t f caps l h (by rw[he];exact ht)
 |fc t f m xs l h ht=>rw[<-hev l];exact .fc t f m xs l h (by rw[he];exact ht)
def sX:List Nat->List (Nat×VO)->List (Nat×VO)
 |[],l=>l
 |h::hs,l=>sX hs (gF h l)
def sY(h:Nat)(hs:List Nat):Bool:=hs.all λk=>!(Nat.beq h k)
def xQ:List Nat->Bool
 |[]=>true
 |h::hs=>sY h hs&&xQ hs
theorem aSk{h k:Nat}(hk:Nat.beq h k=false):∀{l:List (Nat×VO)},ob (gF h l) k=ob l k
 |[]=>rfl
 | p::l=>by
  simp only[gF];cases hb:Nat.beq p.1 h with
  | true=>
   have:=f7 hb;simp only[i7,ob];rw[this,hk];rfl
  | false=>
   simp only[g6,ob];cases Nat.beq p.1 k with
   |true=>rfl
   |false=>exact aSk hk
theorem bNz{k:Nat}:∀{hs:List Nat} {l:List (Nat×VO)},sY k hs=true->ob (sX hs l) k=ob l k
 |[],_,_=>rfl
 | h::hs,l,hd=>by
  simp only[sY,aA9,f4,l6] at hd;simp only[sX];rw[bNz (by simp only[sY];exact hd.2)];refine aSk ?_;cases hb:Nat.beq h k with
  |false=>rfl
  |true=>have:=f7 hb;subst this;rw[aH6] at hd;cases hd.1
theorem bHp{ρ:Rho}:∀{ps:List (Nat×VO)} {l:List (Nat×VO)},xQ (ps.map (·.1))=true->(∀p∈ps,ob l p.1=some p.2)->(l.map λp=>ρ.mo p.1 p.2).Perm ((ps.map λp=>ρ.mo p.1 p.2)++(sX (ps.map (·.1)) l).map λp=>ρ.mo p.1 p.2)
 |[],l,_,_=>by simp[sX]
 | p::ps,l,hn,ho=>by
  simp only[j3,xQ,f4] at hn;obtain⟨i,_,_,h3⟩:=oM (ρ:=ρ) (ho p (by simp));have ih:=bHp (ρ:=ρ) (ps:=ps) (l:=gF p.1 l) hn.2 λq hq=>by
   rw[aSk ?_]
   ·exact ho q (j5 _ hq)
   ·have:=hn.1;simp only[sY,k6,l6] at this;exact this _ (l5.2 ⟨q,hq,rfl⟩)
  simp only[j3,aA4,sX];exact h3.trans (.cons _ ih)
theorem bHh:∀{ns:List (Nat×VO)} {l:List (Nat×VO)},xQ (ns.map (·.1))=true->(∀p∈ns,l.any (λq=>Nat.beq q.1 p.1)=false)->chg (ns.map λp=>(p.1,some p.2)) l=l++ns
 |[],l,_,_=>by simp[chg]
 | p ::ns,l,hn,hl=>by
  simp only[j3,xQ,f4] at hn;simp only[j3,chg];have e:fB p.1 p.2 l=l++[p]:=by
   have h0:=hl p (by simp)
   clear hl
   induction l with
   |nil=>rfl
   | cons q l ih=>
    simp only[y0,j7] at h0;simp only[fB,h0.1,g6,aA4,ih h0.2]
  rw[e,bHh hn.2]
  ·simp
  ·intro q hq;rw[List.any_append,hl q (j5 _ hq)];have:=hn.1;simp only[sY,k6,l6] at this
   simp[this _ (l5.2 ⟨q,hq,rfl⟩)]
theorem cBz{ρ:Rho}{h:Nat}{m m':VO}{l:List (Nat×VO)}(hm:ob l h=some m):((fB h m' l).map λp=>ρ.mo p.1 p.2).Perm (ρ.mo h m'::(gF h l).map λp=>ρ.mo p.1 p.2):=by
 induction l with
 |nil=>cases hm
 | cons p l ih=>
  simp only[ob] at hm;simp only[fB,gF];cases hb:Nat.beq p.1 h with
  |true=>have:=f7 hb;subst this;exact .refl _
  | false=>
   rw[hb] at hm;simp only[g6,j3];exact(List.Perm.cons _ (ih (by simpa using hm))).trans (.swap _ _ _)
section
variable{P:Program}{n d:Nat}{S:VS}{ty:TypeId}{pos:String}{af:Array Edge}{gd:Option (Nat×Bool)}{K:Eff->Prop}{c:Callee}{l:List Operand}{ts:Array TypeId}{f:FuncId}{ars:List AV}
theorem cow[Mode]{α γ:Type}{sh:Option α}{g:α->Option γ}{rr:γ}{e kk:Nat}{rows:α->List (List D)}{args':List AV}(he:∀args w,(callFunc f args).run P w=.ok (.enter f args) w)
  (hf:∀x,sh=some x->aX P f args' [] (λr' o'=>∃w,r'=.d (.lit w)/\o'=[.arr w e kk (rows x)]))(h:sh.bind g=some rr)
  (k:∀x,g x=some rr->bIo (ars.flatMap (aPx S.objs)) λus=>K ⟨.d (.hv 0 d 0),[(d,some (.arr e kk (rows x)))],us,[d]⟩)(hp:∀x,dY (rows x).flatten=true:=by exactλx=>bEk (λ_=>rfl) x)
  (hc:lE S l c=some (f,ars):=by exact rfl)(hv:nlL (ars.map (vA S.objs)) args'=args':=by exact rfl)(hok:(Nat.ble (d+1) n&&(fU l&&args'.all okA))=true:=by exact rfl):
  bY P n ⟨some d,.call ⟨c,l.toArray,ts⟩,ty,pos,af,gd⟩ S K:=by
 obtain⟨x,hx,h⟩:=bind_some h;simp only[f4] at hok;refine⟨⟨_,bIp (K:=λus=>K ⟨.d (.hv 0 d 0),[(d,some (.arr e kk (rows x)))],us,[d]⟩) (k x h),aUb λS' hA ρ=>bDa λhro=>?_⟩⟩;obtain⟨a0,h1,h2⟩:=aFm hA hc he ρ;refine bMp (f5 hok.1) h1 h2 hok.2.1 ?_ (hf x hx) (hp x);have hro':qW (S'.objs.map λp=>ρ.mo p.1 p.2):=hro;have hok2:=hok.2.2;rw[<-hv] at hok2|-;exact aMq (λx hx ha=>aHx ρ hro' (bKz λk hk=>hA.ob k (bFh hx hk)) ha) hok2
end
end Go.Am
end
end
section
namespace Go.Am
theorem aEc{α β:Type}{kv:α->Value}{enc:β->List D}{agg:Bool}(l:List (α×β)):(l.map λp=>(kv p.1,enc p.2)).map (elE agg)=l.map λp=>(kv p.1,eA agg (enc p.2)):=by
 rw[aA6];rfl
theorem aXe{α:Type}{l:List α}{i:Nat}{m:α}(h:l[i]?=some m):l.set i m=l:=by
 obtain⟨hi,hg⟩:=g7.1 h;rw[<-hg,List.set_getElem_self]
section
variable{P:Program}{n d:Nat}{S:VS}{us:List Nat}{op:Op}{ty:TypeId}{pos:String}{af:Array Edge}{gd:Option (Nat×Bool)}{K:Eff->Prop}
theorem bCx[Mode]{h:Nat}{agg:Bool}{es:List (Value×List D)}{v:AV}(hm:ob S.objs h=some (.map agg es))(hu:h∈us)
  (hs:∀S',Agr op S S' us->∀(ρ:Rho) (st:St) (i:Nat) (bs:List Nat) (ck:Nat),st.env=(S'.at ρ).env->st.objs[i]?=some (MO.map (ρ.bb h) (es.map (elE agg)) bs ck)->aQ P n ⟨some d,op,ty,pos,af,gd⟩ st (st.set d (ρ.av v))):lN P n ⟨some d,op,ty,pos,af,gd⟩ S (.r v us):=by
 intro S' hA _ ρ;obtain⟨i,h1,h2,_⟩:=oM (ρ:=ρ) ((hA.ob h hu).trans hm);have hi:=(g7.1 h1).1;refine aUf (i:=i) h1 λbs ck h0=>cM (hs S' hA ρ ⟨(S'.at ρ).env,(S'.at ρ).objs.set i _⟩ i bs ck rfl (by simp[VS.at,aB3,show i<S'.objs.length by simpa using hi])) ?_;rintro s rfl;refine⟨ρ,rfl,?_⟩;have e:=at_set (ρ:=ρ) S' d v;refine(aMg (env:=(St.set (S'.at ρ) d (ρ.av v)).env) hi h0).trans (gA ?_);have e2:(S'.at ρ).objs.set i (mx (ρ.bb h) agg es)=(S'.at ρ).objs:=by
  exact aXe h1
 exact(aA5 (St.mk _) e2).trans e
theorem bOm[Mode]{dst:Option Nat}{h:Nat}{agg:Bool}{es es':List (Value×List D)}{v:AV}(hm:ob S.objs h=some (.map agg es))(hu:h∈us)(h1':agg=false->∀e∈es',e.2.length=1)
  (hs:∀S',Agr op S S' us->∀(ρ:Rho) (st:St) (i:Nat) (bs:List Nat) (ck:Nat),st.env=(S'.at ρ).env->st.objs[i]?=some (MO.map (ρ.bb h) (es.map (elE agg)) bs ck)->Step P n ⟨dst,op,ty,pos,af,gd⟩ st (λs=>∃bs' ck',s=⟨(match dst with|some d=>upd st.env d (ρ.av v)|none=>st.env),st.objs.set i (.map (ρ.bb h) (es'.map (elE agg)) bs' ck')⟩)):lN P n ⟨dst,op,ty,pos,af,gd⟩ S ⟨v,[(h,some (.map agg es'))],us,[]⟩:=by
 intro S' hA _ ρ;obtain⟨i,h1,h2,_⟩:=oM (ρ:=ρ) ((hA.ob h hu).trans hm);have hi:=(g7.1 h1).1;refine aUf (i:=i) h1 λbs ck _=>cM (hs S' hA ρ ⟨(S'.at ρ).env,(S'.at ρ).objs.set i _⟩ i bs ck rfl (by simp[VS.at,aB3,show i<S'.objs.length by simpa using hi])) ?_;rintro s ⟨bs',ck',rfl⟩;refine⟨ρ,rfl,?_⟩;simp only[aH2];refine(aMg hi h1').trans (gA ?_);have e2:(S'.at ρ).objs.set i (mx (ρ.bb h) agg es')=(fB h (.map agg es') S'.objs).map λp=>ρ.mo p.1 p.2:=h2 (.map agg es');refine(aA5 (St.mk _) e2).trans ?_;cases dst with
 |none=>rfl
 | some d=>
  simp only[VS.app,chg];have e:=at_set (ρ:=ρ) ⟨S'.env,fB h (.map agg es') S'.objs⟩ d v;exact e
theorem evE{S':VS}{st:St}{x:Operand}{v:AV}{ρ:Rho}(he:st.env=(S'.at ρ).env)(hA:Agr op S S' us)(hx:x∈op.operands.toList)(h:S.ev x=v):st.eval x=ρ.av v:=by
 have:=evS (ρ:=ρ) hA hx h;cases x<;>simpa[St.eval,he] using this
variable{t kt et:TypeId}{α β:Type}[DecidableEq α]{kv:α->Value}{enc:β->List D}{agg:Bool}{l:List (α×β)}{z:β}{zv:Value}{a:α}{x y:Operand}{h:Nat}
theorem olk[Mode](hk:kU P kt kv)(ht:P.underlying t=some (.map kt et))(hz:∀w,(zeroValue et).run P w=.ok zv w)(hzv:∀w X,VR w X (eA agg (enc z)) zv){yv:AV}(hy:qD kv yv a)(k:K (.r (eA agg (enc (bW a z l))) [h]))
  (hx:S.ev x=.d (.hv 1 h 0):=by exact rfl)(hm:ob S.objs h=some (.map agg (l.map λp=>(kv p.1,enc p.2))):=by exact rfl)(hok:(Nat.ble (d+1) n&&(cD y&&okA yv))=true:=by exact rfl)(hyv:S.ev y=yv:=by exact rfl)(hav:∀v,okA (eA agg (enc v))=true:=by exactλ_=>rfl):
  bY P n ⟨some d,.lookup t x y false,ty,pos,af,gd⟩ S K:=by
 simp only[f4] at hok;refine⟨⟨_,k,bCx hm (by simp) λS' hA ρ st i bs ck he ho=>?_⟩⟩;rw[qB ρ (hav _)];rw[aEc] at ho;exact aPo (av:=λv=>eA agg (enc v)) (f5 hok.1) hk ht hz hzv (evE he hA (by simp[Op.operands]) hx) ho hok.2.1 (evE he hA (by simp[Op.operands]) hyv) (by rw[qB ρ hok.2.2];exact hy)
theorem cBm[Mode](hk:kU P kt kv)(ht:P.underlying t=some (.map kt et))(hz:∀w,(zeroValue et).run P w=.ok zv w)(hzv:∀w X,VR w X (eA agg (enc z)) zv){yv:AV}(hy:qD kv yv a)(k:K (.r (.tup [eA agg (enc (bW a z l)),.b (cR a l)]) [h]))
  (hx:S.ev x=.d (.hv 1 h 0):=by exact rfl)(hm:ob S.objs h=some (.map agg (l.map λp=>(kv p.1,enc p.2))):=by exact rfl)(hok:(Nat.ble (d+1) n&&(cD y&&okA yv))=true:=by exact rfl)(hyv:S.ev y=yv:=by exact rfl)(hav:∀v,ok1 (eA agg (enc v))=true:=by exactλ_=>rfl):
  bY P n ⟨some d,.lookup t x y true,ty,pos,af,gd⟩ S K:=by
 simp only[f4] at hok;refine⟨⟨_,k,bCx hm (by simp) λS' hA ρ st i bs ck he ho=>?_⟩⟩;have e:ρ.av (.tup [eA agg (enc (bW a z l)),.b (cR a l)])=.tup [eA agg (enc (bW a z l)),.b (cR a l)]:=by
  show AV.tup [_,_]=_;rw[aJg ρ (hav _)];rfl
 rw[e];rw[aEc] at ho;exact bAo (av:=λv=>eA agg (enc v)) (f5 hok.1) hk ht hz hzv (evE he hA (by simp[Op.operands]) hx) ho hok.2.1 (evE he hA (by simp[Op.operands]) hyv) (by rw[qB ρ hok.2.2];exact hy)
theorem oup[Mode]{q:Operand}{v:β}(hk:kU P kt kv)(ht:P.underlying t=some (.map kt et)){yv:AV}(hy:qD kv yv a)(k:K ⟨.any,[(h,some (.map agg ((dE a v l).map λp=>(kv p.1,enc p.2))))],[h],[]⟩)
  (hx:S.ev x=.d (.hv 1 h 0):=by exact rfl)(hm:ob S.objs h=some (.map agg (l.map λp=>(kv p.1,enc p.2))):=by exact rfl)(hok:((cD q&&cD y)&&okA yv)=true:=by exact rfl)(hyv:S.ev y=yv:=by exact rfl)(hv:S.ev q=eA agg (enc v):=by exact rfl)(hav:∀v,okA (eA agg (enc v))=true:=by exactλ_=>rfl)(hl:agg=true\/∀v,(enc v).length=1:=by first|exact .inl rfl|exact .inr λ_=>rfl):
  bY P n ⟨none,.mapUpdate t x y q,ty,pos,af,gd⟩ S K:=by
 simp only[f4] at hok;refine⟨⟨_,k,bOm hm (by simp) ?_ λS' hA ρ st i bs ck he ho=>?_⟩⟩
 ·intro hf e hme;obtain⟨p,_,rfl⟩:=l5.1 hme
  rcases hl with hl|hl
  ·rw[hf] at hl;cases hl
  ·exact hl _
 ·rw[aEc] at ho|-;refine cM (aLs (av:=λv=>eA agg (enc v)) (v:=v) (a:=a) hk ht (evE he hA (by simp[Op.operands]) hx) ho hok.1.2 (evE he hA (by simp[Op.operands]) hyv) (by rw[qB ρ hok.2];exact hy) hok.1.1 ?_) ?_
  ·rw[evE he hA (by simp[Op.operands]) hv,qB ρ (hav _)]
  ·rintro s rfl;exact⟨_,_,rfl⟩
theorem omm[Mode](agg:Bool)(k:K ⟨.d (.hv 1 d 0),[(d,some (.map agg []))],[],[d]⟩)(hd:Nat.ble (d+1) n=true:=by exact rfl):bY P n ⟨some d,.makeMap t none,ty,pos,af,gd⟩ S K:=by
 refine⟨⟨_,k,λS' hA hn ρ=>?_⟩⟩;obtain⟨hf,hl⟩:=hn d (by simp);refine cM (aSy (f5 hd)) ?_;rintro s ⟨r,rfl⟩;have H:=aWs (ρ:=ρ) (h:=d) r 0;refine⟨ρ.setB d r 0,rfl,?_⟩;obtain⟨e1,e2⟩:=bOo (ρ:=ρ) hl r 0;have h1:=H.at hf;have h2:=at_set (ρ:=ρ.setB d r 0) S' d (.d (.hv 1 d 0));have hh:(ρ.setB d r 0).av (.d (.hv 1 d 0))=.d (.lit (.map (some r))):=by simp only[Rho.av,Rho.a0,Rho.dd,e1]
 rw[h1,hh] at h2;have hE:=aMg (env:=upd (S'.at ρ).env d (.d (.lit (.map (some r))))) (objs:=(S'.at ρ).objs++[MO.map r [] [] 0]) (i:=(S'.at ρ).objs.length) (r:=r) (agg:=agg) (es:=[]) (bs:=[]) (ck:=0) (by simp) (λ_ e he=>by cases he);have s1:((S'.at ρ).objs++[MO.map r [] [] 0]).set (S'.at ρ).objs.length (.map r (([]:List (Value×List D)).map (elE agg)) [] 0)=(S'.at ρ).objs++[MO.map r [] [] 0]:=by simp
 have s2:((S'.at ρ).objs++[MO.map r [] [] 0]).set (S'.at ρ).objs.length (mx r agg [])=(S'.at ρ).objs++[mx r agg []]:=by simp
 rw[s1,s2] at hE;refine hE.trans (gA ?_);simp only[VS.app,chg,aEp _ (aBh hf)];have h3:(VS.mk ((d,AV.d (.hv 1 d 0))::S'.env) (S'.objs++[(d,VO.map agg [])])).at (ρ.setB d r 0)=(St.mk ((VS.mk ((d,AV.d (.hv 1 d 0))::S'.env) S'.objs).at (ρ.setB d r 0)).env (((VS.mk ((d,AV.d (.hv 1 d 0))::S'.env) S'.objs).at (ρ.setB d r 0)).objs++[(ρ.setB d r 0).mo d (.map agg [])])):=by
  simp[VS.at]
 rw[h3,<-h2];simp only[St.set,Rho.mo,e1]
omit[DecidableEq α] in
theorem olm[Mode](ht:P.underlying t=some (.map kt et))(k:K (.r (.i l.length) [h]))(hx:S.ev x=.d (.hv 1 h 0):=by exact rfl)(hm:ob S.objs h=some (.map agg (l.map λp=>(kv p.1,enc p.2))):=by exact rfl)(hd:Nat.ble (d+1) n=true:=by exact rfl):
  bY P n ⟨some d,.call {callee:=.builtin .len,args:= #[x],argTypes:= #[t]},ty,pos,af,gd⟩ S K:=by
 refine⟨⟨_,k,bCx hm (by simp) λS' hA ρ st i bs ck he ho=>?_⟩⟩;rw[aEc] at ho;exact cCi (f5 hd) ht (evE he hA (by simp[Op.operands,Call.operands]) hx) ho
theorem cOn[Mode]{kt':TypeId}(hk:kU P kt kv)(ht:P.underlying t=some (.map kt et)){yv:AV}(hy:qD kv yv a)(k:K ⟨.any,[(h,some (.map agg ((uA a l).map λp=>(kv p.1,enc p.2))))],[h],[]⟩)
  (hx:S.ev x=.d (.hv 1 h 0):=by exact rfl)(hm:ob S.objs h=some (.map agg (l.map λp=>(kv p.1,enc p.2))):=by exact rfl)(hok:(cD y&&okA yv)=true:=by exact rfl)(hyv:S.ev y=yv:=by exact rfl)(hl:agg=true\/∀v,(enc v).length=1:=by first|exact .inl rfl|exact .inr λ_=>rfl):
  bY P n ⟨none,.call {callee:=.builtin .delete,args:= #[x,y],argTypes:= #[t,kt']},ty,pos,af,gd⟩ S K:=by
 simp only[f4] at hok;refine⟨⟨_,k,bOm hm (by simp) ?_ λS' hA ρ st i bs ck he ho=>?_⟩⟩
 ·intro hf e hme;obtain⟨p,_,rfl⟩:=l5.1 hme
  rcases hl with hl|hl
  ·rw[hf] at hl;cases hl
  ·exact hl _
 ·rw[aEc] at ho|-;refine cM (cCg (av:=λv=>eA agg (enc v)) (a:=a) hk ht (evE he hA (by simp[Op.operands,Call.operands]) hx) ho hok.1 (evE he hA (by simp[Op.operands,Call.operands]) hyv) (by rw[qB ρ hok.2];exact hy)) ?_;rintro s rfl;exact⟨_,_,rfl⟩
theorem bOc{x:Operand}{v:AV}(h:S.ev x=v)(hv:∀u,v≠.d (.lit u))(ha:v≠.any)(hf:∀f,v≠.fn f []):cD x=true:=by
 cases x with
 |tmp=>rfl
 |const u=>exact absurd h.symm (hv u)
 |global=>exact absurd h.symm ha
 |func f=>exact absurd h.symm (hf f)
theorem cEl[Mode](hk:kU P kt kv)(ht:P.underlying t=some (.map kt et))(hz:∀w,(zeroValue et).run P w=.ok zv w)(hzv:∀w X,VR w X (eA agg (enc z)) zv){yv:AV}(hy:qD kv yv a)(k:K (.p (.tup [eA agg (enc (bW a z l)),.b (cR a l)])))
  (hx:S.ev x=.d (.mp agg (l.map λp=>(kv p.1,enc p.2))):=by exact rfl)(hok:(Nat.ble (d+1) n&&(cD y&&okA yv))=true:=by exact rfl)(hyv:S.ev y=yv:=by exact rfl)(hav:∀v,ok1 (eA agg (enc v))=true:=by exactλ_=>rfl):
  bY P n ⟨some d,.lookup t x y true,ty,pos,af,gd⟩ S K:=by
 simp only[f4] at hok;refine dP (us:=[]) k λS' hA ρ=>?_;have e:ρ.av (.tup [eA agg (enc (bW a z l)),.b (cR a l)])=.tup [eA agg (enc (bW a z l)),.b (cR a l)]:=by
  show AV.tup [_,_]=_;rw[aJg ρ (hav _)];rfl
 rw[e];exact aGt (f5 hok.1) hk ht hz hzv (evS hA (by simp[Op.operands]) hx) (bOc hx (by intro u h;cases h) (by intro h;cases h) (by intro f h;cases h)) hok.2.1 (evS hA (by simp[Op.operands]) hyv) (by rw[qB ρ hok.2.2];exact hy)
theorem cOs[Mode]{es:List (Value×List D)}(ht:P.underlying t=some (.map kt et))(k:K (.p (.i es.length)))(hx:S.ev x=.d (.mp agg es):=by exact rfl)(hd:Nat.ble (d+1) n=true:=by exact rfl):
  bY P n ⟨some d,.call {callee:=.builtin .len,args:= #[x],argTypes:= #[t]},ty,pos,af,gd⟩ S K:=
 dP (us:=[]) k λS' hA ρ=>bMs (f5 hd) ht (evS hA (by simp[Op.operands,Call.operands]) hx) (bOc hx (by intro u h;cases h) (by intro h;cases h) (by intro f h;cases h))
end
end Go.Am
end
end
end
section
section
namespace Go.Am
def cOi:Bool->Exit->Prop
 |true,e=>e=.ret\/e=.normal
 |false,e=>e=.ret
def aPt:List Nat->List (Nat×VO)->(List (Nat×VO)->List (Nat×VO)->Prop)->Prop
 |[],objs,K=>K [] objs
 | h::hs,objs,K=>match cKr h with
  |some m=>aPt hs objs λps r=>K ((h,.raw m)::ps) r
  | none=>match ob objs h with
   |some m=>aPt hs (gF h objs) λps r=>K ((h,m)::ps) r
   |none=>False
theorem bDd[Mode]{ρ:Rho}:∀{hs:List Nat} {objs:List (Nat×VO)} {K:List (Nat×VO)->List (Nat×VO)->Prop},aPt hs objs K->∃ps rest nils,K ps rest/\((objs.map λp=>ρ.mo p.1 p.2)++nils).Perm ((ps.map λp=>ρ.mo p.1 p.2)++rest.map λp=>ρ.mo p.1 p.2)/\∀env l,Ent ⟨env,l⟩ ⟨env,l++nils⟩
 |[],objs,K,h=>⟨[],objs,[],h,by simp,λenv l=>by rw[aA2];exact Ent.refl _⟩
 | g ::hs,objs,K,h=>by
  simp only[aPt] at h;split at h
  ·rename_i m hm
   obtain⟨ps,rest,nils,hk,hp,hn⟩:=bDd (ρ:=ρ) (K:=λps r=>K ((g,.raw m)::ps) r) h;refine⟨_,rest,m::nils,hk,aB6.trans (.cons _ hp),λenv l=>?_⟩;have hm':m=.arr (.slice none 0 0) ((g-1000000000)/1000) ((g-1000000000) % 1000) []:=by
    unfold cKr at hm;cases hb:Nat.ble 1000000000 g with
    |true=>rw[hb] at hm;exact(z7 hm).symm
    |false=>rw[hb] at hm;cases hm
   have h1:=(qG ((g-1000000000)/1000) ((g-1000000000) % 1000) (env:=env) (objs:=l)).trans (hn env _);rw[hm']
   rwa[List.append_assoc] at h1
  ·split at h
   ·rename_i m hm
    obtain⟨ps,rest,nils,hk,hp,hn⟩:=bDd (ρ:=ρ) (K:=λps r=>K ((g,m)::ps) r) h;obtain⟨i,_,_,h3⟩:=oM (ρ:=ρ) hm;refine⟨_,rest,nils,hk,?_,hn⟩;have:=List.Perm.append_right nils h3;exact this.trans (.cons _ hp)
   ·exact h.elim
def cCd{P:Program}(T:TT P)(S:VS)(rest:List (Nat×VO)):List ResultVar->(AV->Prop)->Prop
 |[x],K=>rdV T S x λv=>K (vA rest v)
 |[x,y],K=>rdV T S x λv=>rdV T S y λu=>(wO (vA rest v)&&wO (vA rest u))=true/\K (.tup [vA rest v,vA rest u])
 |[x,y,z],K=>rdV T S x λv=>rdV T S y λu=>rdV T S z λt=>(wO (vA rest v)&&(wO (vA rest u)&&wO (vA rest t)))=true/\K (.tup [vA rest v,vA rest u,vA rest t])
 |[],K=>K (.tup [])
 |_,_=>False
theorem cLl{P:Program}{T:TT P}{S:VS}{rest:List (Nat×VO)}{rs:List ResultVar}{K:AV->Prop}{ρ:Rho}(hr:qW (rest.map λp=>ρ.mo p.1 p.2))(h:cCd T S rest rs K):∃r0 r,ResW P (S.at ρ) rs r0/\BV (rest.map λp=>ρ.mo p.1 p.2) r0 (ρ.av r)/\K r:=by
 unfold cCd at h;split at h
 ·obtain⟨v,h,hv⟩:=aAa (ρ:=ρ) h;exact⟨_,_,.one hv,aLe ρ hr v,h⟩
 ·obtain⟨v,h,hv⟩:=aAa (ρ:=ρ) h;obtain⟨u,⟨hf,h⟩,hu⟩:=aAa (ρ:=ρ) h;simp only[f4] at hf;refine⟨_,_,.two hv hu,?_,h⟩;show BV _ _ (.tup [ρ.a1 _,ρ.a1 _]);rw[aAj ρ hf.1,aAj ρ hf.2];exact aBv (.cons (aLe ρ hr v) (.cons (aLe ρ hr u) .nil))
 ·obtain⟨v,h,hv⟩:=aAa (ρ:=ρ) h;obtain⟨u,h,hu⟩:=aAa (ρ:=ρ) h;obtain⟨t,⟨hf,h⟩,ht⟩:=aAa (ρ:=ρ) h;simp only[f4] at hf;refine⟨_,_,.three hv hu ht,?_,h⟩;show BV _ _ (.tup [ρ.a1 _,ρ.a1 _,ρ.a1 _]);rw[aAj ρ hf.1,aAj ρ hf.2.1,aAj ρ hf.2.2];exact aBv (.cons (aLe ρ hr v) (.cons (aLe ρ hr u) (.cons (aLe ρ hr t) .nil)))
 ·exact⟨_,.tup [],.none,.same _,h⟩
 ·exact h.elim
theorem fng[Mode]{P:Program}(T:TT P)(X:XP)(nr:Bool)(bt:List (Nat×Nat×Value)){f:FuncId}{fn:Func}{c:Code}(args:List AV)(objs:List (Nat×VO)){args':List AV}{objs':List MO}{N:Nat}{Q:AV->List MO->Prop}(rs:List ResultVar)
  (hf:P.funcs[f]?=some fn)(hr:fn.results=rs.toArray)(hn:fn.ntmps=N)
  (h:wK T N (aBr bt) X c ⟨aEd 0 args,objs⟩ λe S=>cOi nr e/\∃hs,aPt hs S.objs λps rest=>cCd T S rest rs λr=>∀b o s,Q ((Rho.mk (aBr bt) b o s).av r) (ps.map λp=>(Rho.mk (aBr bt) b o s).mo p.1 p.2))
  (hb:fn.body=some c:=by exact rfl)(ha:Nat.ble args.length N=true:=by exact rfl)
  (e1:args.map (aLr (aBr bt)).av=args':=by kernel_rfl)(e2:(objs.map λp=>(aLr (aBr bt)).mo p.1 p.2)=objs':=by kernel_rfl):aX P f args' objs' Q:=by
 subst e1;subst e2;refine wB hf hb hr hn (by rw[m8];exact f5 ha) ?_;have hent:Ent ⟨entry (args.map (aLr (aBr bt)).av),objs.map λp=>(aLr (aBr bt)).mo p.1 p.2⟩ ((VS.mk (aEd 0 args) objs).at (aLr (aBr bt))):=by
  refine gA ?_;have e:entry (args.map (aLr (aBr bt)).av)=λk=>(aLr (aBr bt)).av (lk (aEd 0 args) k):=by
   funext k
   have h2:=bCi (l:=args) (k:=0) (j:=k);rw[s8] at h2;rw[h2];simp only[entry,List.getD,p8];cases args[k]?<;>rfl
  rw[e];rfl
 refine bPa (jZ hent (pA h _ rfl)) ?_;rintro e s ⟨S',ρ',hβ,⟨he,hs,hob⟩,hE⟩;obtain⟨ps,rest,nils,hres,hp,hn⟩:=bDd (ρ:=ρ') hob;refine⟨_,hE.trans (hn _ _),λhro=>?_⟩;have hro':qW (rest.map λp=>ρ'.mo p.1 p.2):=λv e k rows hm=>hro v e k rows (hp.mem_iff.2 (i6.2 (.inr hm)));obtain⟨r0,r,h1,h2,hq⟩:=cLl hro' hres;have key:∃r0 objs' gone r,ResW P ⟨(S'.at ρ').env,(S'.at ρ').objs++nils⟩ rs r0/\((S'.at ρ').objs++nils).Perm (objs'++gone)/\BV gone r0 r/\Q r objs':=by
  refine⟨r0,_,_,_,h1.app,hp,h2,?_⟩;obtain⟨β,b,o,sv⟩:=ρ';have:β=aBr bt:=hβ;subst this;exact hq b o sv
 cases nr with
 | true=>
  rcases he with rfl|rfl
  ·exact⟨rfl,key⟩
  ·exact key
 |false=>cases he;exact⟨rfl,key⟩
inductive RV where
 |s (v:Value)
 |b (b o:Nat)
def Rho.g1(ρ:Rho)(h:Nat):RV->Rho
 | .s v=>ρ.setS h v
 | .b b o=>ρ.setB h b o
def Rho.gs(ρ:Rho):List Nat->List RV->Rho
 |h::hs,v::vs=>(ρ.g1 h v).gs hs vs
 |_,_=>ρ
theorem bWi{ρ:Rho}{h:Nat}:∀v,Off h ρ (ρ.g1 h v)
 | .s v=>aJf v
 | .b b o=>aWs b o
theorem cKi:∀{hs:List Nat} {vs:List RV} {ρ:Rho},(ρ.gs hs vs).β=ρ.β
 |[],_,_=>by simp[Rho.gs]
 |_::_,[],_=>by simp[Rho.gs]
 |h::hs,v::vs,ρ=>by simp only[Rho.gs];rw[cKi];exact(bWi v).β
theorem cDw{S:VS}:∀{hs:List Nat} {vs:List RV} {ρ:Rho},(∀h∈hs,lV h S=false)->S.at (ρ.gs hs vs)=S.at ρ
 |[],_,_,_=>by simp[Rho.gs]
 |_::_,[],_,_=>by simp[Rho.gs]
 | h::hs,v::vs,ρ,ho=>by
  simp only[Rho.gs];rw[cDw λk hk=>ho k (j5 _ hk)];exact(bWi v).at (ho h (by simp))
def aGx:List Nat->List (Option VO)->List (Nat×Option VO)
 |h::hs,m::ms=>(h,m)::aGx hs ms
 |_,_=>[]
def aSu:List Nat->List (Option VO)->List (Nat×VO)
 |h::hs,some m::ms=>(h,m)::aSu hs ms
 |_::hs,none::ms=>aSu hs ms
 |_,_=>[]
theorem bNg{h k:Nat}{m:VO}(hk:Nat.beq h k=false):∀{l:List (Nat×VO)} {x:VO},ob l h=some x->gF k (fB h m l)=fB h m (gF k l)
 |[],_,hx=>by cases hx
 | p::l,x,hx=>by
  simp only[ob] at hx;cases hb:Nat.beq p.1 h with
  | true=>
   have:=f7 hb;simp only[fB,hb,i7,gF];rw[this,hk]
   simp[fB]
  | false=>
   rw[hb] at hx;simp only[fB,hb,g6,gF];cases hc:Nat.beq p.1 k with
   |true=>simp only[i7]
   |false=>simp only[g6,fB,hb,bNg hk (by simpa using hx)]
theorem bNf{h k:Nat}(hk:Nat.beq h k=false):∀{l:List (Nat×VO)},gF k (gF h l)=gF h (gF k l)
 |[]=>rfl
 | p::l=>by
  cases hb:Nat.beq p.1 h with
  | true=>
   have:=f7 hb;simp only[gF,hb,i7];rw[this,hk]
   simp[gF]
  | false=>
   cases hc:Nat.beq p.1 k with
   |true=>simp only[gF,hb,hc,i7,g6]
   |false=>simp only[gF,hb,hc,g6,bNf hk]
theorem bNb{h k:Nat}(hk:Nat.beq h k=false):Nat.beq k h=false:=by
 cases hb:Nat.beq k h with
 |false=>rfl
 |true=>have:=f7 hb;subst this;rw[aH6] at hk;cases hk
theorem bUj{h:Nat}{m:VO}:∀{ks:List Nat} {l:List (Nat×VO)} {x:VO},sY h ks=true->ob l h=some x->sX ks (fB h m l)=fB h m (sX ks l)
 |[],_,_,_,_=>rfl
 | k::ks,l,x,hd,hx=>by
  simp only[sY,aA9,f4,l6] at hd;simp only[sX];rw[bNg hd.1 hx,bUj (by simp only[sY];exact hd.2) ((aSk (bNb hd.1)).trans hx)]
theorem bUi{h:Nat}:∀{ks:List Nat} {l:List (Nat×VO)},sY h ks=true->sX ks (gF h l)=gF h (sX ks l)
 |[],_,_=>rfl
 | k::ks,l,hd=>by
  simp only[sY,aA9,f4,l6] at hd;simp only[sX];rw[bNf hd.1,bUi (by simp only[sY];exact hd.2)]
theorem bWg{h k:Nat}{m:VO}(hk:Nat.beq h k=false):∀{l:List (Nat×VO)},ob (fB h m l) k=ob l k
 |[]=>by simp[fB,ob,hk]
 | p::l=>by
  simp only[fB];cases hb:Nat.beq p.1 h with
  | true=>
   have:=f7 hb;simp only[i7,ob,hb,hk,g6];rw[this,hk];rfl
  | false=>
   simp only[g6,ob,bWg hk]
theorem aXk{ρ:Rho}:∀{hs:List Nat} {cs:List (Option VO)} {l:List (Nat×VO)},hs.length=cs.length->xQ hs=true->(∀h∈hs,∃m,ob l h=some m)->
  ((chg (aGx hs cs) l).map λp=>ρ.mo p.1 p.2).Perm (((aSu hs cs).map λp=>ρ.mo p.1 p.2)++(sX hs l).map λp=>ρ.mo p.1 p.2)
 |[],[],l,_,_,_=>by simp[aGx,chg,aSu,sX]
 |[],_::_,_,h,_,_=>by simp at h
 |_::_,[],_,h,_,_=>by simp at h
 | h ::hs,c::cs,l,hl,hn,ho=>by
  simp only[xQ,f4] at hn;obtain⟨x,hx⟩:=ho h (by simp);have hne:∀k∈hs,Nat.beq h k=false:=λk hk=>by
   have:=hn.1;simp only[sY,k6,l6] at this;exact this k hk
  cases c with
  | none=>
   simp only[aGx,chg,aSu,sX];exact aXk (by simpa using hl) hn.2 λk hk=>by
    obtain⟨m,hm⟩:=ho k (j5 _ hk);exact⟨m,(aSk (hne k hk)).trans hm⟩
  | some m=>
   simp only[aGx,chg,aSu,sX];refine(aXk (l:=fB h m l) (by simpa using hl) hn.2 λk hk=>?_).trans ?_
   ·obtain⟨q,hq⟩:=ho k (j5 _ hk);exact⟨q,(bWg (hne k hk)).trans hq⟩
   ·rw[bUj hn.1 hx,bUi hn.1];have:=cBz (ρ:=ρ) (m':=m) (show ob (sX hs l) h=some x from(bNz hn.1).trans hx);refine(List.Perm.append_left _ this).trans ?_;simp only[j3,aA4];exact aB6
theorem aVw{h:Nat}:∀{hs:List Nat} {cs:List (Option VO)} {l:List (Nat×VO)},l.any (λq=>Nat.beq q.1 h)=false->sY h hs=true->(chg (aGx hs cs) l).any (λq=>Nat.beq q.1 h)=false
 |[],_,_,hl,_=>by simpa[aGx,chg] using hl
 |_::_,[],_,hl,_=>by simpa[aGx,chg] using hl
 | k ::hs,c::cs,l,hl,hd=>by
  simp only[sY,aA9,f4,l6] at hd;have hd2:sY h hs=true:=by simp only[sY];exact hd.2
  have hkh:=bNb hd.1;cases c with
  | none=>
   simp only[aGx,chg];refine aVw ?_ hd2
   clear hd2
   induction l with
   |nil=>rfl
   | cons p l ih=>
    simp only[y0,j7] at hl;simp only[gF];cases Nat.beq p.1 k with
    |true=>exact hl.2
    |false=>simp only[g6,y0,j7];exact⟨hl.1,ih hl.2⟩
  | some m=>
   simp only[aGx,chg];refine aVw ?_ hd2
   clear hd2
   induction l with
   |nil=>simp[fB,hkh]
   | cons p l ih=>
    simp only[y0,j7] at hl;simp only[fB];cases hb:Nat.beq p.1 k with
    |true=>simp only[i7,y0,j7];exact⟨hl.1,hl.2⟩
    |false=>simp only[g6,y0,j7];exact⟨hl.1,ih hl.2⟩
theorem bTs[Mode]{P:Program}{f:FuncId}{args args':List AV}{objs:List MO}{Q:AV->List MO->Prop}(hb:BVs [] args args')(h:aX P f args' objs Q):aX P f args objs Q:=
 λA w vs h1 h2 h3=>h A w vs h1 h2 (hb.sound (λm hm=>by simp at hm) (λ_ _ h=>h) (λm hm=>by simp at hm) h3)
section
variable{P:Program}{n d:Nat}{S:VS}{ty:TypeId}{pos:String}{af:Array Edge}{gd:Option (Nat×Bool)}{K:Eff->Prop}{c:Callee}{l:List Operand}{ts:Array TypeId}{f:FuncId}{ars:List AV}
def chL(ins:List (Nat×VO))(cs:List (Option VO))(news:List (Nat×VO)):List (Nat×Option VO):=aGx (ins.map (·.1)) cs++news.map λp=>(p.1,some p.2)
theorem cLx[Mode]{α:Type}{Rx:α->Prop}{S':VS}{ρ:Rho}{ins:List (Nat×VO)}{nw us:List Nat}(r:α->AV)(cs:α->List (Option VO))(news:α->List (Nat×VO)){a0:List AV}{Qc:AV->List MO->Prop}
  (hd:d<n)(h1:lH P (S'.at ρ) c l f a0)(hok:fU l=true)(hcall:∀passed rest,(S'.at ρ).objs.Perm (passed++rest)->passed=ins.map (λp=>ρ.mo p.1 p.2)->rest=(sX (ins.map (·.1)) S'.objs).map (λp=>ρ.mo p.1 p.2)->
   ∀(Q:St->Prop),(∀r o,Qc r o->Q ⟨upd (S'.at ρ).env d r,o++rest⟩)->Step P n ⟨some d,.call ⟨c,l.toArray,ts⟩,ty,pos,af,gd⟩ ⟨(S'.at ρ).env,passed++rest⟩ Q)
  (hos:∀p∈ins,ob S'.objs p.1=some p.2)(hnd:(xQ (ins.map (·.1))&&(xQ nw&&nw.all λh=>sY h (ins.map (·.1))))=true)(hfr:∀h∈nw,lV h S'=false)(hnw:∀x,(news x).map (·.1)=nw)(hcs:∀x,(cs x).length=ins.length)
  (hpost:∀r' o',Qc r' o'->∃x,Rx x/\∃ws:List RV,r'=(ρ.gs nw ws).av (r x)/\o'=((aSu (ins.map (·.1)) (cs x)++news x).map λp=>(ρ.gs nw ws).mo p.1 p.2)):
  Step P n ⟨some d,.call ⟨c,l.toArray,ts⟩,ty,pos,af,gd⟩ (S'.at ρ) λst=>∃x,Rx x/\∃ρ':Rho,ρ'.β=ρ.β/\Ent st ((S'.app (some d) ⟨r x,chL ins (cs x) (news x),us,nw⟩).at ρ'):=by
 simp only[f4] at hnd;obtain⟨n2,n3,n4⟩:=hnd;have hp1:=bHp (ρ:=ρ) n2 hos;intro A M w0 a w hR K' Q hK;have hR1:=aEe (env:=(S'.at ρ).env) hp1 A M w0 n a w hR;refine hcall _ _ hp1 rfl rfl _ (λr' o' hq=>?_) A M w0 a w hR1 K' Q λs a' w' hs hR'=>hK s a' w' hs hR';obtain⟨x,hx,ws,rfl,rfl⟩:=hpost r' o' hq;refine⟨x,hx,ρ.gs nw ws,cKi,?_⟩;have hat:=cDw (ρ:=ρ) (vs:=ws) hfr
 generalize ρ.gs nw ws=ρ1 at hat
 simp only[VS.app,chL,bBt];have hk1:∀p∈news x,(chg (aGx (ins.map (·.1)) (cs x)) S'.objs).any (λq=>Nat.beq q.1 p.1)=false:=λp hp=>by
  have hm:p.1∈nw:=hnw x▸l5.2 ⟨p,hp,rfl⟩;refine aVw ?_ (k6.1 n4 _ hm);have h0:=aBh (hfr p.1 hm);rw[aE9] at h0|-;intro q hq hb;exact h0 q hq (by simp only[hb,Bool.true_or])
 rw[bHh (by rw[hnw x];exact n3) hk1];have henv:(λk=>ρ1.av (lk ((d,r x)::S'.env) k))=upd (S'.at ρ).env d (ρ1.av (r x)):=by
  have e:=at_set (ρ:=ρ1) S' d (r x);rw[hat] at e;exact(aA5 St.env e).symm
 have hall:∀p∈S'.objs,ρ1.mo p.1 p.2=ρ.mo p.1 p.2:=λp hp=>by
  have e:=aA5 St.objs hat;simp only[VS.at] at e;exact(List.map_inj_left.1 e) p hp
 have hsub:∀(h:Nat) (l:List (Nat×VO)),∀x∈gF h l,x∈l:=by
  intro h l
  induction l with
  |nil=>intro x hx;exact hx
  | cons q l ih=>
   intro x hx;simp only[gF] at hx;cases hb':Nat.beq q.1 h with
   |true=>rw[hb'] at hx;exact j5 _ hx
   | false=>
    rw[hb'] at hx
    rcases l4.1 hx with rfl|hx
    ·exact aD6
    ·exact j5 _ (ih x hx)
 have hsubL:∀(hs:List Nat) (l:List (Nat×VO)),∀x∈sX hs l,x∈l:=by
  intro hs
  induction hs with
  |nil=>intro l x hx;exact hx
  |cons h hs ih=>intro l x hx;exact hsub h l x (ih _ x hx)
 have hrest:((sX (ins.map (·.1)) S'.objs).map λp=>ρ.mo p.1 p.2)=(sX (ins.map (·.1)) S'.objs).map λp=>ρ1.mo p.1 p.2:=
  aD1 λp hp=>(hall p (hsubL _ _ p hp)).symm
 unfold VS.at;simp only;rw[henv,hrest];refine aEe ?_;have hz:=aXk (ρ:=ρ1) (hs:=ins.map (·.1)) (cs:=cs x) (l:=S'.objs) (by rw[m8,hcs x]) n2 λh hh=>by
  obtain⟨p,hp,rfl⟩:=l5.1 hh;exact⟨_,hos p hp⟩
 rw[v7,v7];refine List.Perm.trans ?_ (List.Perm.append_right _ hz.symm);rw[List.append_assoc,List.append_assoc];exact List.Perm.append_left _ u9
def bFv(f:FuncId)(P:Program)[Mode]{α:Type}(Rx:α->Prop)(ins:List (Nat×VO))(nw:List Nat)(r:α->AV)(cs:α->List (Option VO))(news:α->List (Nat×VO))(args':Rho->List AV)(objs':Rho->List MO):Prop:=
 ∀ρ:Rho,∃Qc,aX P f (args' ρ) (objs' ρ) Qc/\∀r' o',Qc r' o'->∃x,Rx x/\∃ws:List RV,r'=(ρ.gs nw ws).av (r x)/\o'=((aSu (ins.map (·.1)) (cs x)++news x).map λp=>(ρ.gs nw ws).mo p.1 p.2)
theorem aTj[Mode]{α:Type}{Rx:α->Prop}{S':VS}{ins:List (Nat×VO)}{nw us:List Nat}{r:α->AV}{cs:α->List (Option VO)}{news:α->List (Nat×VO)}{args':Rho->List AV}{objs':Rho->List MO}(he:∀args w,(callFunc f args).run P w=.ok (.enter f args) w)
  (hf:bFv f P Rx ins nw r cs news args' objs')(hA:Agr (.call ⟨c,l.toArray,ts⟩) S S' (ins.map (·.1)))(hfr:∀h∈nw,lV h S'=false)(hc:lE S l c=some (f,ars))(hin:(ins.map λp=>ob S.objs p.1)=ins.map λp=>some p.2)
  (hok:(Nat.ble (d+1) n&&(fU l&&(xQ (ins.map (·.1))&&(xQ nw&&nw.all λh=>sY h (ins.map (·.1))))))=true)(hnw:∀x,(news x).map (·.1)=nw)(hcs:∀x,(cs x).length=ins.length)
  (ha:∀ρ:Rho,BVs [] (ars.map ρ.av) (args' ρ))(ho:∀ρ:Rho,objs' ρ=ins.map λp=>ρ.mo p.1 p.2)(ρ:Rho):
  Step P n ⟨some d,.call ⟨c,l.toArray,ts⟩,ty,pos,af,gd⟩ (S'.at ρ) λst=>∃x,Rx x/\∃ρ':Rho,ρ'.β=ρ.β/\Ent st ((S'.app (some d) ⟨r x,chL ins (cs x) (news x),us,nw⟩).at ρ'):=by
 simp only[f4 (Nat.ble (d+1) n),f4 (fU l)] at hok;obtain⟨a0,h1,h2⟩:=aFm hA hc he ρ;obtain⟨Qc,hcall,hpost⟩:=hf ρ;rw[ho ρ] at hcall;have hcall:=bTs (ha ρ) hcall;refine cLx (Qc:=Qc) r cs news (f5 hok.1) h1 hok.2.1 (λpassed rest hp e1 e2 Q hQ=>?_) (λp hp=>(hA.ob p.1 (l5.2 ⟨p,hp,rfl⟩)).trans (List.map_inj_left.1 hin p hp)) hok.2.2 hfr hnw hcs hpost;have h1':lH P ⟨(S'.at ρ).env,passed++rest⟩ c l f a0:=bPz h1 rfl;refine cM (uG (f5 hok.1) rfl h1' h2 hok.2.1 (e1▸hcall)) ?_;rintro s ⟨r',o',hq,rfl⟩;exact hQ r' o' hq
theorem cg[Mode]{α γ:Type}{sh:Option α}{g:α->Option γ}{rr:γ}(ins:List (Nat×VO))(nw:List Nat)(r:α->AV)(cs:α->List (Option VO))(news:α->List (Nat×VO)){args':Rho->List AV}{objs':Rho->List MO}(he:∀args w,(callFunc f args).run P w=.ok (.enter f args) w)
  (hf:∀x,sh=some x->bFv f P (λy=>y=x) ins nw r cs news args' objs')(h:sh.bind g=some rr)(k:∀x,g x=some rr->K ⟨r x,chL ins (cs x) (news x),ins.map (·.1),nw⟩)
  (hc:lE S l c=some (f,ars):=by exact rfl)(hin:(ins.map λp=>ob S.objs p.1)=ins.map (λp=>some p.2):=by exact rfl)
  (hok:(Nat.ble (d+1) n&&(fU l&&(xQ (ins.map (·.1))&&(xQ nw&&nw.all λh=>sY h (ins.map (·.1))))))=true:=by exact rfl)(hnw:∀x,(news x).map (·.1)=nw:=by exactλ_=>rfl)(hcs:∀x,(cs x).length=ins.length:=by exactλ_=>rfl)
  (ha:∀ρ:Rho,BVs [] (ars.map ρ.av) (args' ρ):=by exactλ_=>BVs.refl _ _)(ho:∀ρ:Rho,objs' ρ=ins.map (λp=>ρ.mo p.1 p.2):=by intro _;kernel_rfl):
  bY P n ⟨some d,.call ⟨c,l.toArray,ts⟩,ty,pos,af,gd⟩ S K:=by
 obtain⟨x,hx,h⟩:=bind_some h;refine⟨⟨_,k x h,λS' hA hn ρ=>?_⟩⟩;refine cM (aTj (us:=ins.map (·.1)) (Rx:=λy=>y=x) he (hf x hx) hA (λh hh=>(hn h hh).1) hc hin hok hnw hcs ha ho ρ) ?_;rintro s ⟨y,rfl,ρ',hβ,hE⟩;exact⟨ρ',hβ,hE⟩
theorem cgn[Mode]{β:lS}{Kv:VS->Prop}{α:Type}{Rx:α->Prop}(ins:List (Nat×VO))(nw:List Nat)(r:α->AV)(cs:α->List (Option VO))(news:α->List (Nat×VO)){args':Rho->List AV}{objs':Rho->List MO}(he:∀args w,(callFunc f args).run P w=.ok (.enter f args) w)
  (hf:bFv f P Rx ins nw r cs news args' objs')(k:∀x,Rx x->aCm S nw (rT (some d) ⟨r x,chL ins (cs x) (news x),ins.map (·.1),nw⟩ S Kv))(hne:∃x,Rx x)
  (hc:lE S l c=some (f,ars):=by exact rfl)(hin:(ins.map λp=>ob S.objs p.1)=ins.map (λp=>some p.2):=by exact rfl)
  (hok:(Nat.ble (d+1) n&&(fU l&&(xQ (ins.map (·.1))&&(xQ nw&&nw.all λh=>sY h (ins.map (·.1))))))=true:=by exact rfl)(hnw:∀x,(news x).map (·.1)=nw:=by exactλ_=>rfl)(hcs:∀x,(cs x).length=ins.length:=by exactλ_=>rfl)
  (ha:∀ρ:Rho,BVs [] (ars.map ρ.av) (args' ρ):=by exactλ_=>BVs.refl _ _)(ho:∀ρ:Rho,objs' ρ=ins.map (λp=>ρ.mo p.1 p.2):=by intro _;kernel_rfl):
  aDz P n β ⟨some d,.call ⟨c,l.toArray,ts⟩,ty,pos,af,gd⟩ S Kv:=by
 intro ρ hρ;obtain⟨x0,hx0⟩:=hne;have hfr:=(aSi (k x0 hx0)).2;refine cM (aTj (us:=ins.map (·.1)) he hf ⟨λ_ _=>rfl,λ_ _=>rfl⟩ (λh hh=>(hfr h hh).1) hc hin hok hnw hcs ha ho ρ) ?_;rintro s ⟨x,hx,ρ',hβ,hE⟩;exact⟨_,ρ',hβ.trans hρ,aXw (aSi (k x hx)).1,hE⟩
end
end Go.Am
end
section
section
section
namespace Go.Am
section
variable(ρ:Rho)(lo:List (Nat×VO))
variable{ρ lo}
end
theorem DV.sub{fs fs':List MO}(hs:∀m∈fs,m∈fs'){x y:D}(h:DV fs x y):DV fs' x y:=by
 induction h with
 |same x=>exact .same x
 |nil k=>exact .nil k
 |weak k rows=>exact .weak k rows
 |arrn v e k rows rows' hn _ ih=>exact .arrn v e k rows rows' hn ih
 |arr v e k rows rows' hm hl hk _ ih=>exact .arr v e k rows rows' (hs _ hm) hl hk ih
 |map r bs ck agg es h1 hm=>exact .map r bs ck agg es h1 (hs _ hm)
 |mapx r agg es hm=>exact .mapx r agg es (hs _ hm)
 |box b o ds es hm hl _ ih=>exact .box b o ds es (hs _ hm) hl ih
 |ptc xs ys hl _ ih=>exact .ptc xs ys hl ih
 |fc m f xs ys hl _ ih=>exact .fc m f xs ys hl ih
 |nest v0 e0 e k vs rss ho hf=>exact .nest v0 e0 e k vs rss (hs _ ho) (hs _ hf)
theorem DVs.sub{fs fs':List MO}(hs:∀m∈fs,m∈fs'):∀{xs ys:List D},DVs fs xs ys->DVs fs' xs ys
 |[],[],_=>trivial
 |_::_,_::_,h=>⟨h.1.sub hs,DVs.sub hs h.2⟩
 |[],_::_,h=>h.elim
 |_::_,[],h=>h.elim
theorem BV.sub{fs fs':List MO}(hs:∀m∈fs,m∈fs'){x y:AV}(h:BV fs x y):BV fs' x y:=by
 induction h with
 |same x=>exact .same x
 |any x=>exact .any x
 |d h=>exact .d (h.sub hs)
 |fl nn k rows=>exact .fl nn k rows
 |fln k rows=>exact .fln k rows
 |agg h=>exact .agg (h.sub hs)
 |ptc xs=>exact .ptc xs
 |cpt xs=>exact .cpt xs
 |ad h=>exact .ad h
 |lbp b o=>exact .lbp b o
 |bp b o j ds es hm hj h=>exact .bp b o j ds es (hs _ hm) hj (h.sub hs)
 |fn f caps caps' hl _ ih=>exact .fn f caps caps' hl ih
 |tup caps caps' hl _ ih=>exact .tup caps caps' hl ih
theorem BVs.sub{fs fs':List MO}(hs:∀m∈fs,m∈fs'):∀{xs ys:List AV},BVs fs xs ys->BVs fs' xs ys
 |[],[],_=>.nil
 |_::_,_::_,.cons h hl=>.cons (h.sub hs) (BVs.sub hs hl)
section
variable{P:Program}{n d:Nat}{S:VS}{ty:TypeId}{pos:String}{af:Array Edge}{gd:Option (Nat×Bool)}{K:Eff->Prop}{c:Callee}{l:List Operand}{ts:Array TypeId}{f:FuncId}{ars:List AV}
section
variable{α ε γ:Type}{rr:γ}{args':List AV}
theorem cdo[Mode]{sh:Option (Option α×ε)}{g:Option α×ε->Option γ}{enc:Option α×ε->AV}(he:∀args w,(callFunc f args).run P w=.ok (.enter f args) w)(hf:∀x,sh=some x->Fn P f args' (enc x))(h:sh.bind g=some rr)
  (kn:∀e,g (none,e)=some rr->K (.p (enc (none,e))))(ks:∀y e,g (some y,e)=some rr->K (.p (enc (some y,e))))
  (hc:lE S l c=some (f,ars):=by exact rfl)(hv:nlL ars args'=args':=by exact rfl)(hok:(Nat.ble (d+1) n&&(fU l&&ars.all okA))=true:=by exact rfl)(hn:∀e,okR (enc (none,e))=true:=by exactλ_=>rfl)(hs:∀y e,okR (enc (some y,e))=true:=by exactλ_ _=>rfl):
  bY P n ⟨some d,.call ⟨c,l.toArray,ts⟩,ty,pos,af,gd⟩ S K:=by
 obtain⟨⟨_|y,e⟩,hx,h⟩:=bind_some h
 ·simp only[f4 (Nat.ble (d+1) n)] at hok;exact ocd he (hf _ hx) (f5 hok.1) hc hv hok.2 (hn e) (kn e h)
 ·simp only[f4 (Nat.ble (d+1) n)] at hok;exact ocd he (hf _ hx) (f5 hok.1) hc hv hok.2 (hs y e) (ks y e h)
end
theorem cOm{α γ:Type}{y:α}{F:α->Option γ}{r:γ}(h:Option.bind (some y) F=some r):F y=some r:=h
end
end Go.Am
end
section
namespace Go.Am
theorem xP{α:Type}{o:Option α}{f:α->Prop}(h:nb o f):∃x,o.bind some=some x/\f x:=by
 obtain⟨x,rfl,h⟩:=h;exact⟨x,rfl,h⟩
theorem bRh{α:Type}{y:α}{f:α->Prop}(h:nb (some y) f):f y:=by
 obtain⟨x,hx,h⟩:=h;cases hx;exact h
theorem cEh{α:Type}{f:α->Prop}{p:Prop}(h:nb none f):p:=by
 obtain⟨x,hx,h⟩:=h;cases hx
theorem aEz[Mode]{P:Program}{T:TT P}{n:Nat}{β:lS}{X:XP}{c:Code}{S:VS}{Q:Exit->VS->Prop}{A:Type}{k0:Nat}(ks hs:List Nat)(σ:A->List (Nat×AV)×List (Nat×VO))(F:Nat->A->Prop)(a0:A)(h0:F k0 a0)(he:LeV β S (S.pt ks (σ a0).1 hs (σ a0).2))
  (body:∀k a,F (k+1) a->S.ptK ks (σ a).1 hs (σ a).2 λS1=>wK T n β X c S1 λe S'=>match e with| .normal=>∃a',F k a'/\LeV β S' (S.pt ks (σ a').1 hs (σ a').2)|e=>Q e S')(hz:∀a,¬F 0 a:=by exactλ_ h=>h):OLp T n β X c S Q:=by
 classical
 have hF:∀k a,(if F k a then some () else none)=some ()↔F k a:=λk s=>by split<;>simp_all
 refine⟨aIk he λρ hρ=>?_⟩;refine aUg (λs:A×{ρ:Rho // ρ.β=β}=>(S.pt ks (σ s.1).1 hs (σ s.1).2).at s.2.1) (λk s=>if F k s.1 then some () else none) () (λs=>if_neg (hz s.1)) ?_ k0 (a0,⟨ρ,hρ⟩) ((hF _ _).2 h0);rintro k ⟨a,ρ1,h1⟩ hk;refine nJ (pA (aPg (body k a ((hF _ _).1 hk))) ρ1 h1) ?_;rintro e st ⟨S',ρ',hβ,hq,hent⟩;cases e with
 | normal=>
  obtain⟨a',ha,hl⟩:=hq;obtain⟨ρ2,h2,he2⟩:=hl ρ' hβ;exact⟨(a',⟨ρ2,h2⟩),(hF _ _).2 ha,hent.trans he2⟩
 |_=>exact⟨S',ρ',hβ,hq,hent⟩
section
variable{P:Program}{n d:Nat}{S:VS}{ty:TypeId}{pos:String}{af:Array Edge}{gd:Option (Nat×Bool)}{c:Callee}{l:List Operand}{ts:Array TypeId}{f:FuncId}{ars:List AV}
theorem cgq[Mode]{β:lS}{Kv:VS->Prop}{α:Type}{Rx:α->Prop}{enc:α->AV}{args':List AV}(he:∀args w,(callFunc f args).run P w=.ok (.enter f args) w)
  (hf:aX P f args' [] (λr' o'=>∃x,Rx x/\r'=enc x/\o'=[]))(k:∀x,Rx x->Kv ⟨(d,enc x)::S.env,S.objs⟩)
  (hl:∀(ρ:Rho) x,ρ.av (enc x)=enc x:=by exactλ_ _=>rfl)(hc:lE S l c=some (f,ars):=by exact rfl)(hok:(Nat.ble (d+1) n&&fU l)=true:=by exact rfl)
  (ha:∀ρ:Rho,BVs [] (ars.map ρ.av) args':=by exactλ_=>BVs.refl _ _):
  aDz P n β ⟨some d,.call ⟨c,l.toArray,ts⟩,ty,pos,af,gd⟩ S Kv:=by
 intro ρ hρ;simp only[f4] at hok;refine cM (aTj (S:=S) (S':=S) (us:=[]) (ins:=[]) (nw:=[]) (Rx:=Rx) (r:=enc) (cs:=λ_=>[]) (news:=λ_=>[]) (args':=λ_=>args') (objs':=λ_=>[]) he (λρ=>⟨_,hf,?_⟩) ⟨λ_ _=>rfl,λ_ _=>rfl⟩ (λh hh=>by cases hh) hc rfl (by simp only[f4];exact⟨hok.1,hok.2,rfl,rfl,rfl⟩) (λ_=>rfl) (λ_=>rfl) ha (λ_=>rfl) ρ) ?_
 ·rintro r' o' ⟨x,hx,rfl,rfl⟩;exact⟨x,hx,[],(hl _ x).symm,rfl⟩
 ·rintro s ⟨x,hx,ρ',hβ,hE⟩;exact⟨_,ρ',hβ.trans hρ,k x hx,hE⟩
theorem cKs[Mode]{K:Eff->Prop}{t u e:TypeId}{x:Operand}{a:Str}{γ:Type}{r:γ}{g:List Int->Option γ}(ht:P.underlying t=some .string)(hu:P.underlying u=some (.slice e))(he:P.underlying e=some (.int .u8))(h:(bPy a).bind g=some r)
  (k:∀l,g l=some r->K (.p (.d (.sl 1 (l.map aFt)))))(hx:S.ev x=.d (.lit (sv a)):=by exact rfl)(hok:(Nat.ble (d+1) n&&cD x)=true:=by exact rfl):
  bY P n ⟨some d,.convert t u x,ty,pos,af,gd⟩ S K:=by
 obtain⟨l,hl,h⟩:=bind_some h;simp only[f4] at hok;refine⟨⟨_,k l h,bSq λS' hA ρ=>?_⟩⟩;have e1:ρ.av (.d (.sl 1 (l.map aFt)))=.d (.sl 1 (l.map aFt)):=rfl;rw[e1];exact cHp (f5 hok.1) ((evS (ρ:=ρ) hA (by simp[Op.operands]) hx).trans rfl) ht hu he hl
theorem onl[Mode]{β:lS}{Kv:VS->Prop}{t u el:TypeId}{x:Operand}{k:Nat}{rows:List (List D)}(ht:P.underlying t=some (.slice el))(k':∀b:Bool,(b=true->rows=[])->Kv ⟨(d,.b b)::S.env,S.objs⟩)
  (hx:S.ev x=.d (.sl k rows):=by exact rfl)(hok:(Nat.ble (d+1) n&&cD x)=true:=by exact rfl):aDz P n β ⟨some d,.binOp .eql t x (.const (.slice none 0 0)) u,ty,pos,af,gd⟩ S Kv:=by
 intro ρ hρ;simp only[f4] at hok;have e:(S.at ρ).eval x=.d (.sl k rows):=by rw[sQ,hx];rfl
 refine cM (bAn (f5 hok.1) e hok.2 ht) ?_;rintro s ⟨b,hb,rfl⟩;exact⟨_,ρ,hρ,k' b hb,gA (at_set (ρ:=ρ) S d (.b b))⟩
end
end Go.Am
end
end
section
namespace Go.Am
def toDV:AV->AV
 | .bp h _ j=>.d (.hv 2 h j)
 | .cp xs=>.d (.pt xs)
 |x=>x
theorem cIg(ρ:Rho){x:AV}{w:World}{X:aR}{v:Value}(h:VR w X (ρ.av x) v):VR w X (ρ.av (toDV x)) v:=by
 cases x with
 | bp h' o' j=>
  have hd:=bBm ρ (x:=.bp h' o' j) rfl h;cases h with
  |bp=>exact .d hd.1
 | cp xs=>
  have hd:=bBm ρ (x:=.cp xs) rfl h;cases h with
  |cp=>exact .d hd.1
 |_=>exact h
section
variable{P:Program}{n d:Nat}{S:VS}{ty:TypeId}{pos:String}{af:Array Edge}{gd:Option (Nat×Bool)}{K:Eff->Prop}{Kv:VS->Prop}
theorem PRs.toDV{ρ:Rho}{w:World}{X:aR}:∀{ps:List (Nat×AV)} {l':List (Nat×Value)},PRs w X (ps.map λp=>(p.1,ρ.av p.2)) l'->PRs w X ((ps.map λp=>(p.1,toDV p.2)).map λp=>(p.1,ρ.av p.2)) l'
 |[],[],_=>trivial
 |(_,_)::_,(_,_)::_,h=>⟨h.1,cIg ρ h.2.1,PRs.toDV h.2.2⟩
 |[],_::_,h=>h.elim
 |(_,_)::_,[],h=>h.elim
theorem bOb[Mode]{t:TypeId}{z:Value}{pl:List (Nat×Nat)}{l:List (Nat×Operand)}{zs es:List D}(ht:mP P t z pl)(hzs:z.cells=(zs.map bD).toArray)(k:K (.p (.agg es)))
  (he:zV (λi=>pl[i]?) zs ((St.parts ⟨λk=>lk S.env k,[]⟩ l).map λp=>(p.1,toDV p.2))=some es:=by exact rfl)(hz:zOK zs=true:=by exact rfl)(hok:(Nat.ble (d+1) n&&wC l)=true:=by exact rfl):
  bY P n ⟨some d,.build t l.toArray,ty,pos,af,gd⟩ S K:=by
 simp only[f4] at hok;refine dP (us:=[]) k λS' hA ρ=>?_;have hps:=aPa (S:=S) (S':=S') ρ (l:=l) λp hp=>hA.ev _ (by simp[Op.operands];exact⟨_,hp⟩);have hf:=aWa ρ he;rw[yG hz] at hf;have hA':ρ.av (.agg es)=.agg (es.map ρ.dd):=rfl;rw[hA'];refine cG rfl (f5 hok.1) λA M w0 a w hR=>?_;obtain⟨hz',fs,hu,hm⟩:=ht;have hr:=aBj hR hok.2;rw[hps] at hr;obtain⟨cs',h1,h2⟩:=aWb (place:=λi=>pl[i]?) (cs:=(zs.map bD).toArray) (by simpa using aAs (w:=w) (X:=aU A (S'.at ρ).objs) hz) hr.toDV hf;refine⟨.agg cs',?_,.agg h2⟩;have h1':Instr.fill (λx=>pl.toArray[x]?) (zs.map bD).toArray (l.map λ(i,x)=>(i,a.eval x))=some cs':=by
  rw[<-h1];congr 1;funext i;simp
 simp only[execOp,Instr.build,Sem.run_bind,hz',Result.andThen_ok,hu,hm,hzs,List.map_toArray];rw[h1']
 simp
theorem cOw[Mode]{t el m h o j q:Nat}{x y:Operand}{kd:IntKind}(kk:Nat)(ht:P.underlying t=some (.array m el))(hs:∀w,(sizeOf el).run P w=.ok kk w)(hm:0<m/\m<=maxLen)(k:K (.p (.d (.sl q []))))
  (hx:S.ev x=.bp h o j:=by exact rfl)(hy:S.ev y=.d (.lit (.int kd 0)):=by exact rfl)(hok:(Nat.ble (d+1) n&&cD x)=true:=by exact rfl):
  bY P n ⟨some d,.slice t x none (some y) none,ty,pos,af,gd⟩ S K:=by
 simp only[f4] at hok;refine dP (us:=[]) k λS' hA ρ=>?_;have e1:(S'.at ρ).eval x=.bp (ρ.bb h) (ρ.oo h) j:=by rw[sQ,hA.ev x (by simp[Op.operands]),hx];rfl
 have e2:(S'.at ρ).eval y=.d (.lit (.int kd 0)):=by rw[sQ,hA.ev y (by simp[Op.operands]),hy];rfl
 show aQ P n _ _ ((S'.at ρ).set d (.d (.sl q [])));refine cG rfl (f5 hok.1) λA M w0 a w hR=>?_;have hv:=hR.eval' hok.2;rw[e1] at hv
 generalize hu:a.eval x=u at hv
 cases hv with
 | bp=>
  refine⟨.slice (some ⟨ρ.bb h,ρ.oo h+j,none⟩) 0 m,?_,.d (.sl q [] _ _ m (λ_ _=>undef) (by simp) (by simp) hm.2 (by simp) (by simp))⟩
  simp[execOp,Instr.sliceAt,Instr.sureAddr,run_underlying ht,hu,hR.lit e2,Instr.sliceBounds,Instr.sliceBound,asIntOf,hs,Addr.add,show¬m=0 by omega]
theorem bJh[Mode]{β:lS}{t kt et:TypeId}{A B:Type}{kv:A->Value}{enc:B->List D}{agg:Bool}{l:List (A×B)}{av:B->AV}{x:Operand}(h1 h2:Nat)(ha:∀v,av v=eA agg (enc v))(ht:P.underlying t=some (.map kt et))
  (k:∀q r bs ck,dG l bs []=l->Kv ⟨(d,.d (.lit (.pointer (some ⟨q,0,none⟩))))::S.env,S.objs++[(h1,.raw (aFd kv av l r bs ck)),(h2,.raw (.iter q r ck [] ck))]⟩)
  (hx:S.ev x=.d (.mp agg (l.map λp=>(kv p.1,enc p.2))):=by exact rfl)(hok:(Nat.ble (d+1) n&&cD x)=true:=by exact rfl):
  aDz P n β ⟨some d,.range t x,ty,pos,af,gd⟩ S Kv:=by
 intro ρ hρ;simp only[f4] at hok;have e:(S.at ρ).eval x=.d (.mp agg (l.map λp=>(kv p.1,enc p.2))):=by rw[sQ,hx];rfl
 refine cM (bSl ha (f5 hok.1) ht e hok.2) ?_;rintro s ⟨q,r,bs,ck,hl,rfl⟩;refine⟨_,ρ,hρ,k q r bs ck hl,gA ?_⟩;have e2:=at_set (ρ:=ρ) S d (.d (.lit (.pointer (some ⟨q,0,none⟩))));simp only[VS.at,St.set,St.mk.injEq] at e2|-;refine⟨e2.1,?_⟩
 simp[Rho.mo]
theorem bJf[Mode]{β:lS}{A B:Type}{kv:A->Value}{av:B->AV}{l:List (A×B)}{x:Operand}{q r:Nat}{bs seen:List Nat}{ck:Nat}(h1 h2:Nat)
  (k0:dG l bs seen=[]->Kv ⟨(d,.tup [.b false])::S.env,S.objs⟩)
  (k1:∀(j b:Nat) (p:A×B),(bs.Pairwise (·<·)/\l[j]?=some p/\bs[j]?=some b/\b∉seen)->Kv ⟨(d,.tup [.b true,.any,.any])::S.env,fB h2 (.raw (.iter q r ck (seen++[b]) ck)) S.objs⟩)
  (hx:S.ev x=.d (.lit (.pointer (some ⟨q,0,none⟩))):=by exact rfl)(hi:ob S.objs h2=some (.raw (.iter q r ck seen ck)):=by exact rfl)(hm:ob S.objs h1=some (.raw (aFd kv av l r bs ck)):=by exact rfl)(hd:Nat.ble (d+1) n=true:=by exact rfl):
  aDz P n β ⟨some d,.next x false,ty,pos,af,gd⟩ S Kv:=by
 intro ρ hρ;have e:(S.at ρ).eval x=.d (.lit (.pointer (some ⟨q,0,none⟩))):=by rw[sQ,hx];rfl
 obtain⟨i,i1,i2,_⟩:=oM (ρ:=ρ) hi;obtain⟨m,m1,_,_⟩:=oM (ρ:=ρ) hm;refine cM (bXk (mi:=i) (mm:=m) (kv:=kv) (av:=av) (l:=l) (bs:=bs) (f5 hd) e i1 m1) ?_;rintro s (⟨hl,rfl⟩|⟨j,b,p,hp,rfl⟩)
 ·exact⟨_,ρ,hρ,k0 hl,gA (at_set (ρ:=ρ) S d (.tup [.b false]))⟩
 ·refine⟨_,ρ,hρ,k1 j b p hp,gA ?_⟩;have e2:=at_set (ρ:=ρ) S d (.tup [.b true,.any,.any]);have e3:=i2 (.raw (.iter q r ck (seen++[b]) ck));simp only[VS.at,St.set,St.mk.injEq] at e2|-;exact⟨e2.1,e3⟩
theorem bJb[Mode]{A B:Type}{kv:A->Value}{av:B->AV}{l:List (A×B)}{x:Operand}{q r j b:Nat}{p:A×B}{bs seen:List Nat}{ck:Nat}{ka:AV}(h1 h2:Nat)(hp:bs.Pairwise (·<·)/\l[j]?=some p/\bs[j]?=some b/\b∉seen)(hk:∀w X,VR w X ka (kv p.1))
  (k:K (.r (.tup [ka,av p.2]) [h1,h2]))(hl:∀ρ:Rho,ρ.av (.tup [ka,av p.2])=.tup [ka,av p.2]:=by exactλ_=>rfl)
  (hx:S.ev x=.d (.lit (.pointer (some ⟨q,0,none⟩))):=by exact rfl)(hi:ob S.objs h2=some (.raw (.iter q r ck (seen++[b]) ck)):=by exact rfl)(hm:ob S.objs h1=some (.raw (aFd kv av l r bs ck)):=by exact rfl)(hd:Nat.ble (d+1) n=true:=by exact rfl):
  bY P n ⟨some d,.entry x,ty,pos,af,gd⟩ S K:=by
 refine dP (us:=[h1,h2]) k λS' hA ρ=>?_;obtain⟨i,i1,_,_⟩:=oM (ρ:=ρ) ((hA.ob h2 (by simp)).trans hi);obtain⟨m,m1,_,_⟩:=oM (ρ:=ρ) ((hA.ob h1 (by simp)).trans hm);rw[hl];have e:(S'.at ρ).eval x=.d (.lit (.pointer (some ⟨q,0,none⟩))):=by rw[sQ,hA.ev x (by simp[Op.operands]),hx];rfl
 exact bSh (mi:=i) (mm:=m) (kv:=kv) (av:=av) (l:=l) (bs:=bs) (f5 hd) e i1 m1 hp hk
theorem bHw[Mode]{env env':Nat->AV}{objs:List MO}(h:∀k w X v,VR w X (env k) v->VR w X (env' k) v):Ent ⟨env,objs⟩ ⟨env',objs⟩:=
 λ_ _ _ _ _ _ hR=>⟨hR.size,hR.defers,λk=>h k _ _ _ (hR.env k),hR.inv,hR.keeps,hR.own,hR.old⟩
theorem aXz{w:World}{X:aR}{b o j:Nat}{v:Value}:VR w X (.bp b o j) v↔VR w X (.d (.lit (.pointer (some ⟨b,o+j,none⟩)))) v:=by
 constructor
 ·intro h;cases h with|bp=>exact .d (.lit _ rfl)
 ·intro h;cases h with|d h=>cases h with|lit=>exact .bp _ _ _
theorem cNj[Mode]{β:lS}{t kt et:TypeId}{A:Type}[DecidableEq A]{kv:A->Value}{a:A}{l:List (A×Value)}{x y:Operand}{q h hq o j:Nat}{yv:AV}(hk:kU P kt kv)(ht:P.underlying t=some (.map kt et))(hy:qD kv yv a)
  (k:Kv ⟨S.env,fB h (.map false ((dE a (.pointer (some ⟨(β hq).1,(β hq).2.1+j,none⟩)) l).map λp=>(kv p.1,[.lit p.2]))) S.objs⟩)(hb:Nat.ble 100000 hq=true:=by exact rfl)
  (hx:S.ev x=.d (.hv 1 h 0):=by exact rfl)(hm:ob S.objs h=some (.map false (l.map λp=>(kv p.1,[.lit p.2]))):=by exact rfl)(hok:(cD y&&okA yv)=true:=by exact rfl)(hyv:S.ev y=yv:=by exact rfl)(hq':lk S.env q=.bp hq o j:=by exact rfl)
  (hyq:∀z,y=.tmp z->Nat.beq q z=false:=by(intro z hz;cases hz;rfl))(hxq:∀z,x=.tmp z->Nat.beq q z=false:=by(intro z hz;cases hz;rfl)):
  aDz P n β ⟨none,.mapUpdate t x y (.tmp q),ty,pos,af,gd⟩ S Kv:=by
 intro ρ hρ;subst hρ;simp only[f4] at hok;obtain⟨i,h1,h2,_⟩:=oM (ρ:=ρ) hm;have hi:=(g7.1 h1).1;have hbb:ρ.bb hq=(ρ.β hq).1/\ρ.oo hq=(ρ.β hq).2.1:=by simp[Rho.bb,Rho.oo,hb]
 have heq:(S.at ρ).env q=.bp (ρ.bb hq) (ρ.oo hq) j:=by show ρ.av (lk S.env q)=_;rw[hq'];rfl
 have hne:∀z:Operand,(∀k,z=.tmp k->Nat.beq q k=false)->St.eval ⟨upd (S.at ρ).env q (.d (.lit (.pointer (some ⟨ρ.bb hq,ρ.oo hq+j,none⟩)))),(S.at ρ).objs⟩ z=(S.at ρ).eval z:=by
  intro z hz;cases z with
  |tmp k=>exact lC _ _ (by intro e;subst e;have:=hz q rfl;simp at this)
  |_=>rfl
 refine aXf (st1:=⟨upd (S.at ρ).env q (.d (.lit (.pointer (some ⟨ρ.bb hq,ρ.oo hq+j,none⟩)))),(S.at ρ).objs⟩) (bHw λk w X v hv=>?_) ?_
 ·by_cases hk':q=k
  ·subst hk';rw[fD];rw[hq'] at hv;exact aXz.1 hv
  ·rw[lC _ _ hk'];exact hv
 refine aUf (i:=i) h1 λbs ck _=>?_;have e1:((l.map λp=>(kv p.1,[D.lit p.2])).map (elE false))=l.map λp=>(kv p.1,AV.d (.lit p.2)):=by rw[aA6];rfl
 rw[e1];have hyv':(S.at ρ).eval y=yv:=by rw[sQ,hyv,qB ρ hok.2]
 refine cM (aLs (av:=λv=>AV.d (.lit v)) (v:=.pointer (some ⟨ρ.bb hq,ρ.oo hq+j,none⟩)) (a:=a) (l:=l) (m:=i) (r:=ρ.bb h) (bs:=bs) (clock:=ck) hk ht ?_ (aA1 hi) hok.1 (yv:=yv) ?_ hy rfl ?_) ?_
 ·exact(hne x hxq).trans ((sQ S x).trans (by rw[hx];rfl))
 ·exact(hne y hyq).trans hyv'
 ·exact fD _ _ _
 ·rintro s rfl;refine⟨_,ρ,rfl,k,?_⟩;simp only[aH2];have e2:((dE a (Value.pointer (some ⟨ρ.bb hq,ρ.oo hq+j,none⟩)) l).map λp=>(kv p.1,AV.d (.lit p.2)))=((dE a (Value.pointer (some ⟨(ρ.β hq).1,(ρ.β hq).2.1+j,none⟩)) l).map λp=>(kv p.1,[D.lit p.2])).map (elE false):=by
   rw[hbb.1,hbb.2,aA6];rfl
  rw[e2];refine(aMg hi (λ_ e he=>?_)).trans ?_
  ·obtain⟨p,_,rfl⟩:=l5.1 he;rfl
  have e3:=h2 (.map false ((dE a (Value.pointer (some ⟨(ρ.β hq).1,(ρ.β hq).2.1+j,none⟩)) l).map λp=>(kv p.1,[D.lit p.2])));refine(bHw (env':=(S.at ρ).env) λk w X v hv=>?_).trans (gA ?_)
  ·by_cases hk':q=k
   ·subst hk';show VR w X (ρ.av (lk S.env _)) v;rw[hq'];exact aXz.2 (by rwa[fD] at hv)
   ·rwa[lC _ _ hk'] at hv
  ·exact aA5 (St.mk _) e3
theorem cOq[Mode]{β:lS}{t kt et:TypeId}{A:Type}[DecidableEq A]{kv:A->Value}{a:A}{l:List (A×Value)}{x y:Operand}{h:Nat}{yv:AV}(h2:Nat)(hk:kU P kt kv)(ht:P.underlying t=some (.map kt et))(hz:∀w,(zeroValue et).run P w=.ok (.pointer none) w)(hy:qD kv yv a)
  (ha:cR a l=true)(hg:bW a (.pointer none) l=.pointer (some ⟨(β h2).1,(β h2).2.1,none⟩))(k:Kv ⟨(d,.tup [.bp h2 0 0,.b true])::S.env,S.objs⟩)(hb:Nat.ble 100000 h2=true:=by exact rfl)
  (hx:S.ev x=.d (.hv 1 h 0):=by exact rfl)(hm:ob S.objs h=some (.map false (l.map λp=>(kv p.1,[.lit p.2]))):=by exact rfl)(hok:(Nat.ble (d+1) n&&(cD y&&okA yv))=true:=by exact rfl)(hyv:S.ev y=yv:=by exact rfl):
  aDz P n β ⟨some d,.lookup t x y true,ty,pos,af,gd⟩ S Kv:=by
 intro ρ hρ;subst hρ;simp only[f4] at hok;obtain⟨i,h1,h3,_⟩:=oM (ρ:=ρ) hm;have hi:=(g7.1 h1).1;have hbb:ρ.bb h2=(ρ.β h2).1/\ρ.oo h2=(ρ.β h2).2.1:=by simp[Rho.bb,Rho.oo,hb]
 refine aUf (i:=i) h1 λbs ck h0=>?_;have e1:((l.map λp=>(kv p.1,[D.lit p.2])).map (elE false))=l.map λp=>(kv p.1,AV.d (.lit p.2)):=by rw[aA6];rfl
 rw[e1];have hyv':(S.at ρ).eval y=yv:=by rw[sQ,hyv,qB ρ hok.2.2]
 refine cM (bAo (av:=λv=>AV.d (.lit v)) (z:=.pointer none) (a:=a) (l:=l) (m:=i) (r:=ρ.bb h) (bs:=bs) (clock:=ck) (f5 hok.1) hk ht hz (λ_ _=>.d (.lit _ rfl)) ?_ (aA1 hi) hok.2.1 (yv:=yv) ?_ hy) ?_
 ·exact(sQ S x).trans (by rw[hx];rfl)
 ·exact hyv'
 ·rintro s rfl;refine⟨_,ρ,rfl,k,?_⟩;rw[ha,hg];rw[<-e1];refine(aMg (env:=(St.set (S.at ρ) d _).env) hi h0).trans ?_;have e2:(S.at ρ).objs.set i (mx (ρ.bb h) false (l.map λp=>(kv p.1,[D.lit p.2])))=(S.at ρ).objs:=aXe h1;refine Ent.trans (gA (aA5 (St.mk _) e2)) ?_;have e3:=at_set (ρ:=ρ) S d (.tup [.bp h2 0 0,.b true]);refine Ent.trans ?_ (gA e3);refine bHw λk w X v hv=>?_;simp only[St.set] at hv|-
  by_cases hk':d=k
  ·subst hk';rw[fD] at hv|-;have e4:ρ.av (.tup [.bp h2 0 0,.b true])=.tup [.bp (ρ.bb h2) (ρ.oo h2) 0,.b true]:=rfl;rw[e4,hbb.1,hbb.2];cases hv with
   | tup hl hv=>
    refine .tup hl λi hi=>?_
    match i,hi with
    |0,hi=>exact aXz.2 (hv 0 (by simp))
    |1,hi=>exact hv 1 (by simp)
  ·rw[lC _ _ hk'] at hv|-;exact hv
end
end Go.Am
end
end
end
