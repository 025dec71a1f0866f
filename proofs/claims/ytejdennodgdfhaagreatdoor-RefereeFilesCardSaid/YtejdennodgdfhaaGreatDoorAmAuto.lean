/- Several texts, one behind the other. -/
import Derived.Test.YtejdennodgdfhaaGreatDoorAmClose
import Derived.Test.YtejdennodgdfhaaGreatDoorAmMap
import Derived.Test.YtejdennodgdfhaaGreatDoorAmNd
import Derived.Test.YtejdennodgdfhaaGreatDoorAmPlain
import Derived.KernelRfl
section
namespace Go.Am
section
variable{P:Program}{n d:Nat}{st st':St}{Q:Exit->St->Prop}{ops:Array Oper}{rest:List Oper}{op:Op}{x y:Operand}{ty:TypeId}{pos:String}{af:Array Edge}{gd:Option (Nat×Bool)}{dst:Option Nat}
def mp2(e:Nat->AV):List Nat->List AV
 |[]=>[]
 |k::l=>e k::mp2 e l
theorem ae{e e':Nat->AV}:∀{l:List Nat},l.map e=mp2 e' l->AllEq e e' l
 |[],_=>trivial
 |_::_,h=>⟨(List.cons.inj h).1,ae (List.cons.inj h).2⟩
theorem bns{α β:Type}{x:Option α}{f:α->Option β}{r:β}(h:x.bind f=some r):∃a,x=some a/\f a=some r:=Option.bind_eq_some_iff.1 h
theorem sIn{α:Type}{a b:α}(h:some a=some b):a=b:=Option.some.inj h
theorem bb{a b:Bool}(h:(a&&b)=true):a=true/\b=true:=by simpa using h
theorem to[Mode](h:aY P n ⟨dst,op,ty,pos,af,none⟩ st st')(hr:TrL P n ops rest st' Q):TrL P n ops (⟨dst,op,ty,pos,af,none⟩::rest) st Q:=tr1 rfl h hr
theorem tm[Mode](v:AV)(hr:TrL P n ops rest (st.set d v) Q)(hx:st.eval x=v:=by exact rfl)(hd:(Nat.blt d n&&cJ x)=true:=by exact rfl):TrL P n ops (⟨some d,.move x,ty,pos,af,none⟩::rest) st Q:=
 tr1 rfl (bK (aA (bb hd).1) hx (bb hd).2) hr
theorem ta[Mode](v:AV)(hr:TrL P n ops rest (st.set d v) Q)(hx:st.eval x=v:=by exact rfl)(hd:(Nat.blt d n&&cJ x)=true:=by exact rfl):TrL P n ops (⟨some d,.assign x,ty,pos,af,none⟩::rest) st Q:=
 tr1 rfl (bL (aA (bb hd).1) hx (bb hd).2) hr
theorem tk[Mode]{j s:Nat}{b c:Bool}(hc:c=b)(h:aY P n ⟨dst,op,ty,pos,af,some (j,b)⟩ st st')(hr:TrL P n ops rest st' Q)(hj:(ops[j]?).bind (·.dst)=some s:=by exact rfl)(hb:st.env s=.d (.lit (.bool c)):=by exact rfl)(hs:Nat.blt s n=true:=by exact rfl):
  TrL P n ops (⟨dst,op,ty,pos,af,some (j,b)⟩::rest) st Q:=fR rfl hj (aA hs) hb hc h hr
theorem sm[Mode](v:AV)(hx:st.eval x=v:=by exact rfl)(hd:(Nat.blt d n&&cJ x)=true:=by exact rfl):aY P n ⟨some d,.move x,ty,pos,af,gd⟩ st (st.set d v):=bK (aA (bb hd).1) hx (bb hd).2
theorem sf[Mode]{t f off b o j:Nat}(hx:st.eval x=.bp b o j)(hf:bG P t f off)(hd:Nat.blt d n=true:=by exact rfl):aY P n ⟨some d,.fieldAddr t x f,ty,pos,af,gd⟩ st (st.set d (.bp b o (j+off))):=gI (aA hd) hx hf
theorem sl[Mode](i:Nat){t:TypeId}{b o j:Nat}{ds:List D}{d0:D}(hx:st.eval x=.bp b o j)(ho:st.objs[i]?=some (.box b o ds))(hj:ds[j]?=some d0)(ht:dJ P t)(hd:Nat.blt d n=true:=by exact rfl):aY P n ⟨some d,.load t x,ty,pos,af,gd⟩ st (st.set d (.d d0)):=kV (aA hd) hx ho hj ht
theorem sla[Mode](i:Nat)(es:List D){t:TypeId}{b o j m:Nat}{ds:List D}(hx:st.eval x=.bp b o j)(ho:st.objs[i]?=some (.box b o ds))(ht:gL P t m)(he:(ds.drop j).take m=es:=by exact rfl)(hl:es.length=m:=by exact rfl)(hd:Nat.blt d n=true:=by exact rfl):aY P n ⟨some d,.load t x,ty,pos,af,gd⟩ st (st.set d (.agg es)):=pF (aA hd) hx ho ht he hl
theorem sar[Mode]{o:BinOp}{k:IntKind}{p q r:Int}{t u:TypeId}(hx:st.eval x=.d (.lit (.int k p)))(hy:st.eval y=.d (.lit (.int k q)))(hr:aPn o p q=some r)(hd:Nat.blt d n=true:=by exact rfl):aY P n ⟨some d,.binOp o t x y u,ty,pos,af,gd⟩ st (st.set d (.d (.lit (.int k (k.wrap r))))):=uC (aA hd) hx hy hr
theorem scm[Mode]{o:BinOp}{k:IntKind}{p q:Int}{r:Bool}{t u:TypeId}(hx:st.eval x=.d (.lit (.int k p)))(hy:st.eval y=.d (.lit (.int k q)))(hr:cmp o p q=some r)(hd:Nat.blt d n=true:=by exact rfl):aY P n ⟨some d,.binOp o t x y u,ty,pos,af,gd⟩ st (st.set d (.b r)):=nF (aA hd) hx hy hr
theorem spt[Mode](v:AV){c:Operand}{b:Bool}(hb:b=true)(hc:st.eval c=.d (.lit (.bool b)):=by exact rfl)(hx:st.eval x=v:=by exact rfl)(hd:(Nat.blt d n&&cJ x)=true:=by exact rfl):aY P n ⟨some d,.pick c x y,ty,pos,af,gd⟩ st (st.set d v):=vN (aA (bb hd).1) hc hb hx (bb hd).2
theorem spf[Mode](v:AV){c:Operand}{b:Bool}(hb:b=false)(hc:st.eval c=.d (.lit (.bool b)):=by exact rfl)(hx:st.eval y=v:=by exact rfl)(hd:(Nat.blt d n&&cJ y)=true:=by exact rfl):aY P n ⟨some d,.pick c x y,ty,pos,af,gd⟩ st (st.set d v):=rM (aA (bb hd).1) hc hb hx (bb hd).2
theorem sst[Mode](i:Nat){t m b o0 j:Nat}{ds es:List D}{v:AV}(hx:st.eval x=.bp b o0 j)(ho:st.objs[i]?=some (.box b o0 ds))(ht:∀w,(sizeOf t).run P w=.ok m w)(ds':List D)(hy:st.eval y=v:=by exact rfl)(hv:v.cells=some es:=by exact rfl)(hm:es.length=m:=by exact rfl)(hk:(cJ y&&(Nat.blt 0 m&&Nat.ble (j+es.length) ds.length))=true:=by exact rfl)(hds:fD ds j es=ds':=by exact rfl):
  aY P n ⟨none,.store t x y,ty,pos,af,gd⟩ st (st.put1 i (.box b o0 ds')):=cV hx ho hy (bb hk).1 hv ht hm (aA (bb (bb hk).2).1) (Nat.le_of_ble_eq_true (bb (bb hk).2).2) hds
theorem sn[Mode]{b:Bool}{t:TypeId}(hx:st.eval x=.d (.lit (.bool b)))(hd:Nat.blt d n=true:=by exact rfl):aY P n ⟨some d,.unOp .not t x,ty,pos,af,gd⟩ st (st.set d (.b (!b))):=xN (aA hd) hx
theorem six[Mode]{t e k:Nat}{rows:List (List D)}{kd:IntKind}{p:Int}{ds:List D}(hx:st.eval x=.d (.sl k rows))(hy:st.eval y=.d (.lit (.int kd p)))(ht:iL P t e k)(hp:idx rows p=some ds)(hd:Nat.blt d n=true:=by exact rfl):aY P n ⟨some d,.indexAddr t x y,ty,pos,af,gd⟩ st (st.set d (.cp ds)):=lX (aA hd) hx hy ht hp
theorem slc[Mode]{t:TypeId}{d0:D}{ds:List D}(hx:st.eval x=.cp (d0::ds))(ht:dJ P t)(hd:Nat.blt d n=true:=by exact rfl):aY P n ⟨some d,.load t x,ty,pos,af,gd⟩ st (st.set d (.d d0)):=cG (aA hd) hx ht
theorem aLx[Mode](es:List D){t:TypeId}{m:Nat}{ds:List D}(hx:st.eval x=.cp ds)(ht:gL P t m)(he:ds.take m=es:=by exact rfl)(hl:es.length=m:=by exact rfl)(hd:Nat.blt d n=true:=by exact rfl):aY P n ⟨some d,.load t x,ty,pos,af,gd⟩ st (st.set d (.agg es)):=aIq (aA hd) hx ht he hl
theorem sfc[Mode](es:List D){t f off:Nat}{ds:List D}(hx:st.eval x=.cp ds)(hf:bG P t f off)(he:(ds.drop off).take es.length=es:=by exact rfl)(hd:Nat.blt d n=true:=by exact rfl):aY P n ⟨some d,.fieldAddr t x f,ty,pos,af,gd⟩ st (st.set d (.cp es)):=aCd (aA hd) hx hf he
theorem sex[Mode]{vs:List AV}{i:Nat}{v:AV}(hx:st.eval x=.tup vs)(hv:vs[i]?=some v)(hd:Nat.blt d n=true:=by exact rfl):aY P n ⟨some d,.extract x i,ty,pos,af,gd⟩ st (st.set d v):=dD (aA hd) hx hv
theorem sle[Mode]{α:Type}{k:Nat}{f:α->List D}{xs:List α}{t:TypeId}{e kk:Nat}(hx:st.eval x=.d (.sl k (xs.map f)))(ht:iL P t e kk)(hd:Nat.blt d n=true:=by exact rfl):aY P n ⟨some d,.call {callee:=.builtin .len,args:= #[x],argTypes:= #[t]},ty,pos,af,gd⟩ st (st.set d (.i xs.length)):=aDr (aA hd) hx ht
theorem sc[Mode]{i:FuncId}{l:List Operand}{args args':List AV}{r:AV}{ts:Array TypeId}(hc:∀args w,(callFunc i args).run P w=.ok (.enter i args) w)(hf:Fn P i args' r)(hb:BVs st.objs args args')(ha:st.evals l=args:=by exact rfl)(hd:(Nat.blt d n&&(iE l&&r.isLit))=true:=by exact rfl):
  aY P n ⟨some d,.call {callee:=.value (.func i),args:=l.toArray,argTypes:=ts},ty,pos,af,gd⟩ st (st.set d r):=fV (aA (bb hd).1) (.func _ _ hc) ha (bb (bb hd).2).1 hb hf (bb (bb hd).2).2
theorem scr[Mode]{i:FuncId}{l:List Operand}{args:List AV}{r:AV}{ts:Array TypeId}(hc:∀args w,(callFunc i args).run P w=.ok (.enter i args) w)(hf:Fn P i args r)(ha:st.evals l=args:=by exact rfl)(hd:(Nat.blt d n&&(iE l&&r.isLit))=true:=by exact rfl):
  aY P n ⟨some d,.call {callee:=.value (.func i),args:=l.toArray,argTypes:=ts},ty,pos,af,gd⟩ st (st.set d r):=fV (aA (bb hd).1) (.func _ _ hc) ha (bb (bb hd).2).1 (BVs.refl _ _) hf (bb (bb hd).2).2
theorem tih[Mode]{c:Operand}{X Y:Code}{b:Bool}{α:Type}{e f:Option α}{r:α}(h:(bif b then e else f)=some r)(ht:b=true->e=some r->Tr P n X st Q)(hf:b=false->f=some r->Tr P n Y st Q)(hc:st.eval c=.d (.lit (.bool b)):=by exact rfl):Tr P n (.cond c X Y) st Q:=
 iY hc (λk=>ht k (yK k h)) (λk=>hf k (vT k h))
theorem tip[Mode]{c:Operand}{X Y:Code}{b:Bool}{e f:Prop}(h:bif b then e else f)(ht:b=true->e->Tr P n X st Q)(hf:b=false->f->Tr P n Y st Q)(hc:st.eval c=.d (.lit (.bool b)):=by exact rfl):Tr P n (.cond c X Y) st Q:=
 iY hc (λk=>ht k (bBy k h)) (λk=>hf k (bBx k h))
omit op x y ty pos af gd dst in
theorem bch{p:Prop}{b:Bool}{α:Type}{e f:Option α}{r:α}(h:(bif b then e else f)=some r)(h1:b=true->e=some r->p)(h2:b=false->f=some r->p):p:=aHf b (λk=>h1 k (yK k h)) (λk=>h2 k (vT k h))
variable{tab:Tab}{yes no:List Nat}{base:Nat->AV}{objs:List MO}{v:AV}{o:Oper}
def zev(tab:Tab)(yes no:List Nat)(base:Nat->AV):Operand->Option AV
 | .tmp k=>ovL tab yes no base k
 | .const v=>some (.d (.lit v))
 | .global _=>some .any
 | .func f=>some (.fn f [])
theorem dU{S:Nat->Bool}(hS:Knows S yes no)(h:zev tab yes no base x=some v):St.eval ⟨ov tab S base,objs⟩ x=v:=by
 cases x with
 |tmp k=>exact aK hS h
 |const u=>exact Option.some.inj h
 |global g=>exact Option.some.inj h
 |func f=>exact Option.some.inj h
theorem go[Mode]{i:Nat}(h:∀S,Knows S yes no->aY P n ⟨dst,op,ty,pos,af,none⟩ ⟨ov tab S base,objs⟩ ⟨upd (ov tab S base) d v,objs⟩)(hf:find tab d=some (i,v):=by exact rfl):
  ∀S,Knows S yes no->∃d v,find tab d=some (i,v)/\GStep P n ops ⟨dst,op,ty,pos,af,none⟩ ⟨ov tab S base,objs⟩ ⟨upd (ov tab S base) d v,objs⟩:=λS hS=>gZ hf (bW rfl (h S hS))
theorem gt[Mode]{i j s:Nat}{b c:Bool}(hc:c=b)(h:∀S,Knows S yes no->aY P n ⟨dst,op,ty,pos,af,some (j,b)⟩ ⟨ov tab S base,objs⟩ ⟨upd (ov tab S base) d v,objs⟩)(hf:find tab d=some (i,v):=by exact rfl)(hj:(ops[j]?).bind (·.dst)=some s:=by exact rfl)(hb:ovL tab yes no base s=some (.d (.lit (.bool c))):=by exact rfl)(hs:Nat.blt s n=true:=by exact rfl):
  ∀S,Knows S yes no->∃d v,find tab d=some (i,v)/\GStep P n ops ⟨dst,op,ty,pos,af,some (j,b)⟩ ⟨ov tab S base,objs⟩ ⟨upd (ov tab S base) d v,objs⟩:=λS hS=>gZ hf (bRr rfl hj (aA hs) (rG (objs:=objs) hS hb) hc (h S hS))
theorem gp[Mode]{i j s:Nat}{b c:Bool}(hc:c=!b)(hf:find tab d=some (i,.tup []):=by exact rfl)(hj:(ops[j]?).bind (·.dst)=some s:=by exact rfl)(hb:ovL tab yes no base s=some (.d (.lit (.bool c))):=by exact rfl)(hs:(Nat.blt d n&&Nat.blt s n)=true:=by exact rfl):
  ∀S,Knows S yes no->∃e v,find tab e=some (i,v)/\GStep P n ops ⟨some d,op,ty,pos,af,some (j,b)⟩ ⟨ov tab S base,objs⟩ ⟨upd (ov tab S base) e v,objs⟩:=λ_ hS=>⟨d,.tup [],hf,bRq rfl rfl (aA (bb hs).1) hj (aA (bb hs).2) (rG (objs:=objs) hS hb) hc⟩
theorem gq[Mode]{i j s:Nat}{b:Bool}(hf:find tab d=some (i,.tup []):=by exact rfl)(hj:(ops[j]?).bind (·.dst)=some s:=by exact rfl)(hb:ovL tab yes no base s=some (.tup []):=by exact rfl)(hs:(Nat.blt d n&&Nat.blt s n)=true:=by exact rfl):
  ∀S,Knows S yes no->∃e v,find tab e=some (i,v)/\GStep P n ops ⟨some d,op,ty,pos,af,some (j,b)⟩ ⟨ov tab S base,objs⟩ ⟨upd (ov tab S base) e v,objs⟩:=λ_ hS=>⟨d,.tup [],hf,bPg rfl rfl (aA (bb hs).1) hj (aA (bb hs).2) (rG (objs:=objs) hS hb)⟩
theorem zm[Mode](v:AV)(hx:zev tab yes no base x=some v:=by exact rfl)(hd:(Nat.blt d n&&cJ x)=true:=by exact rfl):∀S,Knows S yes no->aY P n ⟨some d,.move x,ty,pos,af,gd⟩ ⟨ov tab S base,objs⟩ ⟨upd (ov tab S base) d v,objs⟩:=λ_ hS=>bK (aA (bb hd).1) (dU hS hx) (bb hd).2
theorem za[Mode](v:AV)(hx:zev tab yes no base x=some v:=by exact rfl)(hd:(Nat.blt d n&&cJ x)=true:=by exact rfl):∀S,Knows S yes no->aY P n ⟨some d,.assign x,ty,pos,af,gd⟩ ⟨ov tab S base,objs⟩ ⟨upd (ov tab S base) d v,objs⟩:=λ_ hS=>bL (aA (bb hd).1) (dU hS hx) (bb hd).2
theorem zf[Mode]{t f off b o j:Nat}(hx:zev tab yes no base x=some (.bp b o j))(hf:bG P t f off)(hd:Nat.blt d n=true:=by exact rfl):∀S,Knows S yes no->aY P n ⟨some d,.fieldAddr t x f,ty,pos,af,gd⟩ ⟨ov tab S base,objs⟩ ⟨upd (ov tab S base) d (.bp b o (j+off)),objs⟩:=λ_ hS=>gI (aA hd) (dU hS hx) hf
theorem zl[Mode](i:Nat){t:TypeId}{b o j:Nat}{ds:List D}{d0:D}(hx:zev tab yes no base x=some (.bp b o j))(ho:objs[i]?=some (.box b o ds))(hj:ds[j]?=some d0)(ht:dJ P t)(hd:Nat.blt d n=true:=by exact rfl):∀S,Knows S yes no->aY P n ⟨some d,.load t x,ty,pos,af,gd⟩ ⟨ov tab S base,objs⟩ ⟨upd (ov tab S base) d (.d d0),objs⟩:=λ_ hS=>kV (aA hd) (dU hS hx) ho hj ht
theorem zla[Mode](i:Nat)(es:List D){t:TypeId}{b o j m:Nat}{ds:List D}(hx:zev tab yes no base x=some (.bp b o j))(ho:objs[i]?=some (.box b o ds))(ht:gL P t m)(he:(ds.drop j).take m=es:=by exact rfl)(hl:es.length=m:=by exact rfl)(hd:Nat.blt d n=true:=by exact rfl):∀S,Knows S yes no->aY P n ⟨some d,.load t x,ty,pos,af,gd⟩ ⟨ov tab S base,objs⟩ ⟨upd (ov tab S base) d (.agg es),objs⟩:=λ_ hS=>pF (aA hd) (dU hS hx) ho ht he hl
theorem zar[Mode]{o:BinOp}{k:IntKind}{p q r:Int}{t u:TypeId}(hx:zev tab yes no base x=some (.d (.lit (.int k p))))(hy:zev tab yes no base y=some (.d (.lit (.int k q))))(hr:aPn o p q=some r)(hd:Nat.blt d n=true:=by exact rfl):∀S,Knows S yes no->aY P n ⟨some d,.binOp o t x y u,ty,pos,af,gd⟩ ⟨ov tab S base,objs⟩ ⟨upd (ov tab S base) d (.d (.lit (.int k (k.wrap r)))),objs⟩:=λ_ hS=>uC (aA hd) (dU hS hx) (dU hS hy) hr
theorem zcm[Mode]{o:BinOp}{k:IntKind}{p q:Int}{r:Bool}{t u:TypeId}(hx:zev tab yes no base x=some (.d (.lit (.int k p))))(hy:zev tab yes no base y=some (.d (.lit (.int k q))))(hr:cmp o p q=some r)(hd:Nat.blt d n=true:=by exact rfl):∀S,Knows S yes no->aY P n ⟨some d,.binOp o t x y u,ty,pos,af,gd⟩ ⟨ov tab S base,objs⟩ ⟨upd (ov tab S base) d (.b r),objs⟩:=λ_ hS=>nF (aA hd) (dU hS hx) (dU hS hy) hr
theorem zpt[Mode](v:AV){c:Operand}{b:Bool}(hb:b=true)(hc:zev tab yes no base c=some (.d (.lit (.bool b))):=by exact rfl)(hx:zev tab yes no base x=some v:=by exact rfl)(hd:(Nat.blt d n&&cJ x)=true:=by exact rfl):∀S,Knows S yes no->aY P n ⟨some d,.pick c x y,ty,pos,af,gd⟩ ⟨ov tab S base,objs⟩ ⟨upd (ov tab S base) d v,objs⟩:=λ_ hS=>vN (aA (bb hd).1) (dU hS hc) hb (dU hS hx) (bb hd).2
theorem zpf[Mode](v:AV){c:Operand}{b:Bool}(hb:b=false)(hc:zev tab yes no base c=some (.d (.lit (.bool b))):=by exact rfl)(hx:zev tab yes no base y=some v:=by exact rfl)(hd:(Nat.blt d n&&cJ y)=true:=by exact rfl):∀S,Knows S yes no->aY P n ⟨some d,.pick c x y,ty,pos,af,gd⟩ ⟨ov tab S base,objs⟩ ⟨upd (ov tab S base) d v,objs⟩:=λ_ hS=>rM (aA (bb hd).1) (dU hS hc) hb (dU hS hx) (bb hd).2
theorem zn[Mode]{b:Bool}{t:TypeId}(hx:zev tab yes no base x=some (.d (.lit (.bool b))))(hd:Nat.blt d n=true:=by exact rfl):∀S,Knows S yes no->aY P n ⟨some d,.unOp .not t x,ty,pos,af,gd⟩ ⟨ov tab S base,objs⟩ ⟨upd (ov tab S base) d (.b (!b)),objs⟩:=λ_ hS=>xN (aA hd) (dU hS hx)
theorem zia[Mode](m:Nat){t e k:Nat}{v:Value}{e':Nat}{rows:List (List D)}{kd:IntKind}{p:Int}{ds:List D}(hx:zev tab yes no base x=some (.d (.lit v)))(ho:objs[m]?=some (.arr v e' k rows))(hy:zev tab yes no base y=some (.d (.lit (.int kd p))))(ht:iL P t e k)(hp:idx rows p=some ds)(hd:Nat.blt d n=true:=by exact rfl):∀S,Knows S yes no->aY P n ⟨some d,.indexAddr t x y,ty,pos,af,gd⟩ ⟨ov tab S base,objs⟩ ⟨upd (ov tab S base) d (.ep v k p.toNat 0),objs⟩:=λ_ hS=>pM (aA hd) (dU hS hx) ho (dU hS hy) ht hp
theorem zlc[Mode]{t:TypeId}{d0:D}{ds:List D}(hx:zev tab yes no base x=some (.cp (d0::ds)))(ht:dJ P t)(hd:Nat.blt d n=true:=by exact rfl):∀S,Knows S yes no->aY P n ⟨some d,.load t x,ty,pos,af,gd⟩ ⟨ov tab S base,objs⟩ ⟨upd (ov tab S base) d (.d d0),objs⟩:=λ_ hS=>cG (aA hd) (dU hS hx) ht
theorem zfc[Mode](es:List D){t f off:Nat}{ds:List D}(hx:zev tab yes no base x=some (.cp ds))(hf:bG P t f off)(he:(ds.drop off).take es.length=es:=by exact rfl)(hd:Nat.blt d n=true:=by exact rfl):∀S,Knows S yes no->aY P n ⟨some d,.fieldAddr t x f,ty,pos,af,gd⟩ ⟨ov tab S base,objs⟩ ⟨upd (ov tab S base) d (.cp es),objs⟩:=λ_ hS=>aCd (aA hd) (dU hS hx) hf he
theorem zex[Mode]{vs:List AV}{i:Nat}{v:AV}(hx:zev tab yes no base x=some (.tup vs))(hv:vs[i]?=some v)(hd:Nat.blt d n=true:=by exact rfl):∀S,Knows S yes no->aY P n ⟨some d,.extract x i,ty,pos,af,gd⟩ ⟨ov tab S base,objs⟩ ⟨upd (ov tab S base) d v,objs⟩:=λ_ hS=>dD (aA hd) (dU hS hx) hv
theorem zle[Mode]{α:Type}{k:Nat}{f:α->List D}{xs:List α}{t:TypeId}{e kk:Nat}(hx:zev tab yes no base x=some (.d (.sl k (xs.map f))))(ht:iL P t e kk)(hd:Nat.blt d n=true:=by exact rfl):∀S,Knows S yes no->aY P n ⟨some d,.call {callee:=.builtin .len,args:= #[x],argTypes:= #[t]},ty,pos,af,gd⟩ ⟨ov tab S base,objs⟩ ⟨upd (ov tab S base) d (.i xs.length),objs⟩:=λ_ hS=>aDr (aA hd) (dU hS hx) ht
theorem dok[Mode]{l:List Oper}{m:Nat}(yn:List (List Nat×List Nat))(h:AllSteps P n l.toArray tab st.env st.objs (l.take m) yn 0)(h1:(uH l&&(rR (cM l l.length) m l.length&&(Nat.ble m l.length&&(jN tab&&((tab.all λx=>Nat.blt x.2.1 m)&&aJb (cM l l.length) m yn)))))=true:=by kernel_rfl):aWu P n l m tab st:=
 ⟨(bb h1).1,(bb (bb h1).2).1,(bb (bb (bb h1).2).2).1,(bb (bb (bb (bb h1).2).2).2).1,(bb (bb (bb (bb (bb h1).2).2).2).2).1,yn,(bb (bb (bb (bb (bb h1).2).2).2).2).2,h⟩
theorem ym[Mode]{S:Nat->Bool}(hS:Knows S yes no)(v:AV)(hx:zev tab yes no base x=some v:=by exact rfl)(hd:(Nat.blt d n&&cJ x)=true:=by exact rfl):aY P n ⟨some d,.move x,ty,pos,af,gd⟩ ⟨ov tab S base,objs⟩ ⟨upd (ov tab S base) d v,objs⟩:=bK (aA (bb hd).1) (dU hS hx) (bb hd).2
theorem ya[Mode]{S:Nat->Bool}(hS:Knows S yes no)(v:AV)(hx:zev tab yes no base x=some v:=by exact rfl)(hd:(Nat.blt d n&&cJ x)=true:=by exact rfl):aY P n ⟨some d,.assign x,ty,pos,af,gd⟩ ⟨ov tab S base,objs⟩ ⟨upd (ov tab S base) d v,objs⟩:=bL (aA (bb hd).1) (dU hS hx) (bb hd).2
theorem yf[Mode]{S:Nat->Bool}(hS:Knows S yes no){t f off b o j:Nat}(hx:zev tab yes no base x=some (.bp b o j))(hf:bG P t f off)(hd:Nat.blt d n=true:=by exact rfl):aY P n ⟨some d,.fieldAddr t x f,ty,pos,af,gd⟩ ⟨ov tab S base,objs⟩ ⟨upd (ov tab S base) d (.bp b o (j+off)),objs⟩:=gI (aA hd) (dU hS hx) hf
theorem yl[Mode]{S:Nat->Bool}(hS:Knows S yes no)(i:Nat){t:TypeId}{b o j:Nat}{ds:List D}{d0:D}(hx:zev tab yes no base x=some (.bp b o j))(ho:objs[i]?=some (.box b o ds))(hj:ds[j]?=some d0)(ht:dJ P t)(hd:Nat.blt d n=true:=by exact rfl):aY P n ⟨some d,.load t x,ty,pos,af,gd⟩ ⟨ov tab S base,objs⟩ ⟨upd (ov tab S base) d (.d d0),objs⟩:=kV (aA hd) (dU hS hx) ho hj ht
theorem yla[Mode]{S:Nat->Bool}(hS:Knows S yes no)(i:Nat)(es:List D){t:TypeId}{b o j m:Nat}{ds:List D}(hx:zev tab yes no base x=some (.bp b o j))(ho:objs[i]?=some (.box b o ds))(ht:gL P t m)(he:(ds.drop j).take m=es:=by exact rfl)(hl:es.length=m:=by exact rfl)(hd:Nat.blt d n=true:=by exact rfl):aY P n ⟨some d,.load t x,ty,pos,af,gd⟩ ⟨ov tab S base,objs⟩ ⟨upd (ov tab S base) d (.agg es),objs⟩:=pF (aA hd) (dU hS hx) ho ht he hl
theorem yar[Mode]{S:Nat->Bool}(hS:Knows S yes no){o:BinOp}{k:IntKind}{p q r:Int}{t u:TypeId}(hx:zev tab yes no base x=some (.d (.lit (.int k p))))(hy:zev tab yes no base y=some (.d (.lit (.int k q))))(hr:aPn o p q=some r)(hd:Nat.blt d n=true:=by exact rfl):aY P n ⟨some d,.binOp o t x y u,ty,pos,af,gd⟩ ⟨ov tab S base,objs⟩ ⟨upd (ov tab S base) d (.d (.lit (.int k (k.wrap r)))),objs⟩:=uC (aA hd) (dU hS hx) (dU hS hy) hr
theorem ycm[Mode]{S:Nat->Bool}(hS:Knows S yes no){o:BinOp}{k:IntKind}{p q:Int}{r:Bool}{t u:TypeId}(hx:zev tab yes no base x=some (.d (.lit (.int k p))))(hy:zev tab yes no base y=some (.d (.lit (.int k q))))(hr:cmp o p q=some r)(hd:Nat.blt d n=true:=by exact rfl):aY P n ⟨some d,.binOp o t x y u,ty,pos,af,gd⟩ ⟨ov tab S base,objs⟩ ⟨upd (ov tab S base) d (.b r),objs⟩:=nF (aA hd) (dU hS hx) (dU hS hy) hr
theorem yn[Mode]{S:Nat->Bool}(hS:Knows S yes no){b:Bool}{t:TypeId}(hx:zev tab yes no base x=some (.d (.lit (.bool b))))(hd:Nat.blt d n=true:=by exact rfl):aY P n ⟨some d,.unOp .not t x,ty,pos,af,gd⟩ ⟨ov tab S base,objs⟩ ⟨upd (ov tab S base) d (.b (!b)),objs⟩:=xN (aA hd) (dU hS hx)
theorem ylc[Mode]{S:Nat->Bool}(hS:Knows S yes no){t:TypeId}{d0:D}{ds:List D}(hx:zev tab yes no base x=some (.cp (d0::ds)))(ht:dJ P t)(hd:Nat.blt d n=true:=by exact rfl):aY P n ⟨some d,.load t x,ty,pos,af,gd⟩ ⟨ov tab S base,objs⟩ ⟨upd (ov tab S base) d (.d d0),objs⟩:=cG (aA hd) (dU hS hx) ht
theorem bUn[Mode]{S:Nat->Bool}(hS:Knows S yes no)(es:List D){t:TypeId}{m:Nat}{ds:List D}(hx:zev tab yes no base x=some (.cp ds))(ht:gL P t m)(he:ds.take m=es:=by exact rfl)(hl:es.length=m:=by exact rfl)(hd:Nat.blt d n=true:=by exact rfl):aY P n ⟨some d,.load t x,ty,pos,af,gd⟩ ⟨ov tab S base,objs⟩ ⟨upd (ov tab S base) d (.agg es),objs⟩:=aIq (aA hd) (dU hS hx) ht he hl
theorem yfc[Mode]{S:Nat->Bool}(hS:Knows S yes no)(es:List D){t f off:Nat}{ds:List D}(hx:zev tab yes no base x=some (.cp ds))(hf:bG P t f off)(he:(ds.drop off).take es.length=es:=by exact rfl)(hd:Nat.blt d n=true:=by exact rfl):aY P n ⟨some d,.fieldAddr t x f,ty,pos,af,gd⟩ ⟨ov tab S base,objs⟩ ⟨upd (ov tab S base) d (.cp es),objs⟩:=aCd (aA hd) (dU hS hx) hf he
theorem yex[Mode]{S:Nat->Bool}(hS:Knows S yes no){vs:List AV}{i:Nat}{v:AV}(hx:zev tab yes no base x=some (.tup vs))(hv:vs[i]?=some v)(hd:Nat.blt d n=true:=by exact rfl):aY P n ⟨some d,.extract x i,ty,pos,af,gd⟩ ⟨ov tab S base,objs⟩ ⟨upd (ov tab S base) d v,objs⟩:=dD (aA hd) (dU hS hx) hv
section
variable{tabX:Mk->Tab}{obs:Mk->List Stg}{X:Mk}{S:Nat->Bool}{i:Nat}
theorem xp[Mode](hw:∀X,jN (tabX X)=true)(h:aY P n ⟨dst,op,ty,pos,af,none⟩ ⟨ov (tabX X) S base,fC S (obs X)⟩ ⟨upd (ov (tabX X) S base) d v,fC S (obs X)⟩)(hf:find (tabX X) d=some (i,v):=by exact rfl)(hr:aGh i (obs X)=true:=by exact rfl):
  aEb P n ops ⟨dst,op,ty,pos,af,none⟩ tabX base obs i X S:=xV hf (hw X) hr (bW rfl h)
theorem xs[Mode](p:Nat){s0:Stg}{mo:MO}(hS:Knows S yes (i::no))(hp:(obs X)[p]?=some s0)(hm:aIf (i::yes) no s0.1 s0.2=some mo)(h:aY P n ⟨dst,op,ty,pos,af,none⟩ ⟨ov (tabX X) S base,fC S (obs X)⟩ ⟨ov (tabX X) S base,(fC S (obs X)).set p mo⟩)
  (hno:bF i no=false:=by exact rfl)(hn:aMo i (tabX X)=true:=by exact rfl)(ho:aDf i p (obs X)=true:=by exact rfl):aEb P n ops ⟨dst,op,ty,pos,af,none⟩ tabX base obs i X S:=bQt hS hno hn ho hp hm (bW rfl h)
end
def dg:Nat->Nat->List Nat->List Nat
 |0,_,acc=>acc
 |f+1,n,acc=>bif Nat.beq n 0 then acc else dg f (n/100) ((n % 100-1)::acc)
def yc(n:Nat):List Nat×List Nat:=(dg 40 n [],[])
def yx(n:Nat×Nat):List Nat×List Nat:=(dg 40 n.1 [],dg 40 n.2 [])
theorem dk[Mode]{l:List Oper}{m:Nat}(c:List Nat)(h:AllSteps P n l.toArray tab st.env st.objs (l.take m) (c.map yc) 0)(h1:(uH l&&(rR (cM l l.length) m l.length&&(Nat.ble m l.length&&(jN tab&&((tab.all λx=>Nat.blt x.2.1 m)&&aJb (cM l l.length) m (c.map yc))))))=true:=by kernel_rfl):aWu P n l m tab st:=dok (c.map yc) h h1
theorem xok[Mode]{l:List Oper}{m q:Nat}{tabX:Mk->Tab}{obs:Mk->List Stg}(c:List (Nat×Nat))(h:XSteps P n l.toArray tabX st.env obs (l.take m) (c.map yx) 0)(h1:(uH l&&(rR (cM l l.length) m l.length&&(Nat.ble m l.length&&aJb (cM l l.length) m (c.map yx))))=true:=by kernel_rfl)
  (h2:∀X,(jN (tabX X)&&(((tabX X).all λx=>Nat.blt x.2.1 m)&&aAg m (obs X)))=true:=by exactλ_=>by kernel_rfl)(h3:∀X,fC (λ_=>false) (obs X)=st.objs++List.replicate q nob:=by exactλ_=>rfl):XOK P n l m q tabX obs st:=
 ⟨(bb h1).1,(bb (bb h1).2).1,(bb (bb (bb h1).2).2).1,λX=>(bb (h2 X)).1,λX=>(bb (bb (h2 X)).2).1,λX=>(bb (bb (h2 X)).2).2,h3,_,(bb (bb (bb h1).2).2).2,h⟩
theorem oT[Mode]{f:FuncId}{fn:Func}{c:Code}{args:List AV}{r:AV}{N:Nat}(rs:List ResultVar)(hf:P.funcs[f]?=some fn)(hr:fn.results=rs.toArray)(hn:fn.ntmps=N)(h:Tr P N c ⟨entry args,[]⟩ (λe st=>e=.ret/\∃r',aNz st rs r'/\r'=r/\st.objs=[]))(hb:fn.body=some c:=by exact rfl)(ha:Nat.ble args.length N=true:=by exact rfl):Fn P f args r:=
 Fn.of_tr hf hb hr hn (Nat.le_of_ble_eq_true ha) h
theorem rt[Mode](h:Q .ret st:=by exact⟨rfl,_,.one _,rfl,rfl⟩):Tr P n .ret st Q:=bP h
end
end Go.Am
end
section
namespace Go.Am
class FA (P:Program) (s f:Nat) (off:outParam Nat):Prop where h:bG P s f off
class I1 (P:Program) (t:TypeId):Prop where h:dJ P t
class SO (P:Program) (t:TypeId) (e k:outParam Nat):Prop where h:iL P t e k
structure pY(k:Nat)(p:Prop):Prop where h:p
structure Wr(p:Prop):Prop where h:p
theorem bd0{p:Prop}(z:Wr p):pY 0 p:=⟨z.h⟩
section
variable{P:Program}{n d k:Nat}{st st':St}{Q:Exit->St->Prop}{N:St->Prop}{ops:Array Oper}{rest:List Oper}{op:Op}{ty:TypeId}{pos:String}{af:Array Edge}{dst:Option Nat}
theorem q1[Mode](h:aY P n ⟨dst,op,ty,pos,af,none⟩ st st')(hr:pY k (TrL P n ops rest st' Q)):pY (k+1) (TrL P n ops (⟨dst,op,ty,pos,af,none⟩::rest) st Q):=⟨tr1 rfl h hr.h⟩
theorem q2[Mode]{j s:Nat}{b c:Bool}(hj:(ops[j]?).bind (·.dst)=some s)(hb:st.env s=.d (.lit (.bool c)))(hc:c=b)(hs:Nat.blt s n=true)(h:aY P n ⟨dst,op,ty,pos,af,some (j,b)⟩ st st')(hr:pY k (TrL P n ops rest st' Q)):
  pY (k+1) (TrL P n ops (⟨dst,op,ty,pos,af,some (j,b)⟩::rest) st Q):=⟨fR rfl hj (aA hs) hb hc h hr.h⟩
theorem q3[Mode]{j s:Nat}{b c:Bool}(hj:(ops[j]?).bind (·.dst)=some s)(hb:st.env s=.d (.lit (.bool c)))(hc:c=!b)(hs:(Nat.blt d n&&Nat.blt s n)=true)(hr:pY k (TrL P n ops rest (st.set d (.tup [])) Q)):
  pY (k+1) (TrL P n ops (⟨some d,op,ty,pos,af,some (j,b)⟩::rest) st Q):=⟨lR rfl rfl (aA (bb hs).1) hj (aA (bb hs).2) hb hc hr.h⟩
theorem q4[Mode]{j s:Nat}{b:Bool}(hj:(ops[j]?).bind (·.dst)=some s)(hb:st.env s=.tup [])(hs:(Nat.blt d n&&Nat.blt s n)=true)(hr:pY k (TrL P n ops rest (st.set d (.tup [])) Q)):
  pY (k+1) (TrL P n ops (⟨some d,op,ty,pos,af,some (j,b)⟩::rest) st Q):=⟨bAk rfl rfl (aA (bb hs).1) hj (aA (bb hs).2) hb hr.h⟩
theorem q5[Mode](h:pY k (N st)):pY (k+1) (TrL P n ops [] st (jI N Q)):=⟨aM h.h⟩
theorem q6[Mode]{id:Nat}{l:List Oper}(h:pY k (TrL P n l.toArray l st Q)):pY (k+1) (Tr P n (.region id l.toArray false) st Q):=⟨aL h.h⟩
theorem q7[Mode]{x y:Code}(h:pY k (Tr P n x st (jI (λs=>Tr P n y s Q) Q))):pY (k+1) (Tr P n (.seq x y) st Q):=⟨aO h.h⟩
theorem q8[Mode](h:pY k (N st)):pY (k+1) (Tr P n .skip st (jI N Q)):=⟨lS h.h⟩
theorem q9[Mode]{id:Nat}{c:Code}(h:pY k (Tr P n c st (uS id N (jI N Q)))):pY (k+1) (Tr P n (.block id c) st (jI N Q)):=⟨qQ h.h⟩
end
theorem aFb{l:List MO}{m:MO}{i:Nat}(h:l[i]?=some m):l[i]?=some m:=h
theorem au (k : Nat){G G':Prop}(hr:G')(h:Wr G'->pY k G:=by
    intro z
    repeat (first
      |refine q7 ?_
      |refine q6 ?_
      |refine q5 ?_
      |refine q8 ?_
      |refine q9 ?_
      | (first
         |apply q1
         | (apply q2
            case hj=>exact rfl
            case hb=>exact rfl
            case hc=>first|assumption|exact rfl
            case hs=>exact rfl)
         case h =>first
           | (with_reducible apply bK
              case hd=>exact aA rfl
              case hk=>exact rfl
              case hx=>first
                |exact(rfl:_=AV.d _)
                |exact(rfl:_=AV.tup _)
                |exact(rfl:_=AV.agg _)
                |exact(rfl:_=AV.bp _ _ _)
                |exact(rfl:_=AV.cp _))
           | (with_reducible apply bL
              case hd=>exact aA rfl
              case hk=>exact rfl
              case hx=>first
                |exact(rfl:_=AV.d _)
                |exact(rfl:_=AV.agg _)
                |exact(rfl:_=AV.bp _ _ _)
                |exact(rfl:_=AV.cp _)
                |exact(rfl:_=AV.tup _))
           | (with_reducible apply nF
              case hd=>exact aA rfl
              case hx=>exact rfl
              case hy=>exact rfl
              case hr=>exact rfl)
           | (with_reducible apply uC
              case hd=>exact aA rfl
              case hx=>exact rfl
              case hy=>exact rfl
              case hr=>exact rfl)
           | (with_reducible apply gI
              case hd=>exact aA rfl
              case hx=>exact rfl
              case hf=>exact FA.h)
           | (with_reducible apply kV
              case hd=>exact aA rfl
              case hx=>exact rfl
              case ho=>first
                |exact aFb rfl (i:=0)
                |exact aFb rfl (i:=1)
                |exact aFb rfl (i:=2)
                |exact aFb rfl (i:=3)
                |exact aFb rfl (i:=4)
                |exact aFb rfl (i:=5)
                |exact aFb rfl (i:=6)
                |exact aFb rfl (i:=7)
                |exact aFb rfl (i:=8)
                |exact aFb rfl (i:=9)
              case hj=>exact rfl
              case ht=>exact I1.h)
           |exact sex rfl rfl
           |exact scm rfl rfl rfl
           |exact sar rfl rfl rfl
           |exact sn rfl
           |exact sle rfl SO.h
           |exact spt (.d _) (by assumption)
           |exact spf (.d _) (by assumption)
           |exact slc rfl I1.h
         case' hr=>skip)
      |refine q4 rfl rfl rfl ?_
      |refine q3 rfl rfl (by first|assumption|rfl) rfl ?_)
    exact bd0 z):G:=(h ⟨hr⟩).h
end Go.Am
end
