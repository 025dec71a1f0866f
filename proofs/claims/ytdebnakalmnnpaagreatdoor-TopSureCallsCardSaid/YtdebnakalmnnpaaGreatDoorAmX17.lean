/- Several texts, one behind the other. -/
import Derived.Test.YtdebnakalmnnpaaGreatDoorAmClose
import Derived.Test.YtdebnakalmnnpaaGreatDoorAmVal
import Derived.Test.YtdebnakalmnnpaaGreatDoorAmPlain
import Derived.KernelRfl
import Derived.Test.YtdebnakalmnnpaaGreatDoorAmEnt
import Derived.Test.YtdebnakalmnnpaaGreatDoorAmByt
section
section
namespace Go.Am
section
variable{P:Program}{n d:Nat}{st st':St}{Q:Exit->St->Prop}{ops:Array Oper}{rest:List Oper}{op:Op}{x y:Operand}{ty:TypeId}{pos:String}{af:Array Edge}{gd:Option (Nat×Bool)}{dst:Option Nat}
abbrev uw(n:Int):Int:=IntKind.u64.wrap n
def mp2(e:Nat->AV):List Nat->List AV
 |[]=>[]
 |k::l=>e k::mp2 e l
theorem ae{e e':Nat->AV}:∀{l:List Nat},l.map e=mp2 e' l->AllEq e e' l
 |[],_=>trivial
 |_::_,h=>⟨(List.cons.inj h).1,ae (List.cons.inj h).2⟩
theorem bns{α β:Type}{x:Option α}{f:α->Option β}{r:β}(h:x.bind f=some r):∃a,x=some a/\f a=some r:=Option.bind_eq_some_iff.1 h
theorem sIn{α:Type}{a b:α}(h:some a=some b):a=b:=Option.some.inj h
theorem bb{a b:Bool}(h:(a&&b)=true):a=true/\b=true:=by simpa using h
theorem to[Mode](h:aM P n ⟨dst,op,ty,pos,af,none⟩ st st')(hr:TrL P n ops rest st' Q):TrL P n ops (⟨dst,op,ty,pos,af,none⟩::rest) st Q:=tr1 rfl h hr
theorem tm[Mode](v:AV)(hr:TrL P n ops rest (st.set d v) Q)(hx:st.eval x=v:=by exact rfl)(hd:(Nat.blt d n&&cD x)=true:=by exact rfl):TrL P n ops (⟨some d,.move x,ty,pos,af,none⟩::rest) st Q:=
 tr1 rfl (dG (aC (bb hd).1) hx (bb hd).2) hr
theorem ta[Mode](v:AV)(hr:TrL P n ops rest (st.set d v) Q)(hx:st.eval x=v:=by exact rfl)(hd:(Nat.blt d n&&cD x)=true:=by exact rfl):TrL P n ops (⟨some d,.assign x,ty,pos,af,none⟩::rest) st Q:=
 tr1 rfl (cS (aC (bb hd).1) hx (bb hd).2) hr
theorem tk[Mode]{j s:Nat}{b c:Bool}(hc:c=b)(h:aM P n ⟨dst,op,ty,pos,af,some (j,b)⟩ st st')(hr:TrL P n ops rest st' Q)(hj:(ops[j]?).bind (·.dst)=some s:=by exact rfl)(hb:st.env s=.d (.lit (.bool c)):=by exact rfl)(hs:Nat.blt s n=true:=by exact rfl):
  TrL P n ops (⟨dst,op,ty,pos,af,some (j,b)⟩::rest) st Q:=wK rfl hj (aC hs) hb hc h hr
theorem sm[Mode](v:AV)(hx:st.eval x=v:=by exact rfl)(hd:(Nat.blt d n&&cD x)=true:=by exact rfl):aM P n ⟨some d,.move x,ty,pos,af,gd⟩ st (st.set d v):=dG (aC (bb hd).1) hx (bb hd).2
theorem sf[Mode]{t f off b o j:Nat}(hx:st.eval x=.bp b o j)(hf:eI P t f off)(hd:Nat.blt d n=true:=by exact rfl):aM P n ⟨some d,.fieldAddr t x f,ty,pos,af,gd⟩ st (st.set d (.bp b o (j+off))):=jW (aC hd) hx hf
theorem sl[Mode](i:Nat){t:TypeId}{b o j:Nat}{ds:List D}{d0:D}(hx:st.eval x=.bp b o j)(ho:st.objs[i]?=some (.box b o ds))(hj:ds[j]?=some d0)(ht:fZ P t)(hd:Nat.blt d n=true:=by exact rfl):aM P n ⟨some d,.load t x,ty,pos,af,gd⟩ st (st.set d (.d d0)):=tL (aC hd) hx ho hj ht
theorem sla[Mode](i:Nat)(es:List D){t:TypeId}{b o j m:Nat}{ds:List D}(hx:st.eval x=.bp b o j)(ho:st.objs[i]?=some (.box b o ds))(ht:jV P t m)(he:(ds.drop j).take m=es:=by exact rfl)(hl:es.length=m:=by exact rfl)(hd:Nat.blt d n=true:=by exact rfl):aM P n ⟨some d,.load t x,ty,pos,af,gd⟩ st (st.set d (.agg es)):=tM (aC hd) hx ho ht he hl
theorem sar[Mode]{o:BinOp}{k:IntKind}{p q r:Int}{t u:TypeId}(hx:st.eval x=.d (.lit (.int k p)))(hy:st.eval y=.d (.lit (.int k q)))(hr:aXn o p q=some r)(hd:Nat.blt d n=true:=by exact rfl):aM P n ⟨some d,.binOp o t x y u,ty,pos,af,gd⟩ st (st.set d (.d (.lit (.int k (k.wrap r))))):=zU (aC hd) hx hy hr
theorem scm[Mode]{o:BinOp}{k:IntKind}{p q:Int}{r:Bool}{t u:TypeId}(hx:st.eval x=.d (.lit (.int k p)))(hy:st.eval y=.d (.lit (.int k q)))(hr:cmp o p q=some r)(hd:Nat.blt d n=true:=by exact rfl):aM P n ⟨some d,.binOp o t x y u,ty,pos,af,gd⟩ st (st.set d (.b r)):=yD (aC hd) hx hy hr
theorem spt[Mode](v:AV){c:Operand}{b:Bool}(hb:b=true)(hc:st.eval c=.d (.lit (.bool b)):=by exact rfl)(hx:st.eval x=v:=by exact rfl)(hd:(Nat.blt d n&&cD x)=true:=by exact rfl):aM P n ⟨some d,.pick c x y,ty,pos,af,gd⟩ st (st.set d v):=aFc (aC (bb hd).1) hc hb hx (bb hd).2
theorem spf[Mode](v:AV){c:Operand}{b:Bool}(hb:b=false)(hc:st.eval c=.d (.lit (.bool b)):=by exact rfl)(hx:st.eval y=v:=by exact rfl)(hd:(Nat.blt d n&&cD y)=true:=by exact rfl):aM P n ⟨some d,.pick c x y,ty,pos,af,gd⟩ st (st.set d v):=aJi (aC (bb hd).1) hc hb hx (bb hd).2
theorem sst[Mode](i:Nat){t m b o0 j:Nat}{ds es:List D}{v:AV}(hx:st.eval x=.bp b o0 j)(ho:st.objs[i]?=some (.box b o0 ds))(ht:∀w,(sizeOf t).run P w=.ok m w)(ds':List D)(hy:st.eval y=v:=by exact rfl)(hv:v.cells=some es:=by exact rfl)(hm:es.length=m:=by exact rfl)(hk:(cD y&&(Nat.blt 0 m&&Nat.ble (j+es.length) ds.length))=true:=by exact rfl)(hds:fU ds j es=ds':=by exact rfl):
  aM P n ⟨none,.store t x y,ty,pos,af,gd⟩ st (st.put1 i (.box b o0 ds')):=gH hx ho hy (bb hk).1 hv ht hm (aC (bb (bb hk).2).1) (Nat.le_of_ble_eq_true (bb (bb hk).2).2) hds
theorem sn[Mode]{b:Bool}{t:TypeId}(hx:st.eval x=.d (.lit (.bool b)))(hd:Nat.blt d n=true:=by exact rfl):aM P n ⟨some d,.unOp .not t x,ty,pos,af,gd⟩ st (st.set d (.b (!b))):=bAa (aC hd) hx
theorem six[Mode]{t e k:Nat}{rows:List (List D)}{kd:IntKind}{p:Int}{ds:List D}(hx:st.eval x=.d (.sl k rows))(hy:st.eval y=.d (.lit (.int kd p)))(ht:kB P t e k)(hp:idx rows p=some ds)(hd:Nat.blt d n=true:=by exact rfl):aM P n ⟨some d,.indexAddr t x y,ty,pos,af,gd⟩ st (st.set d (.cp ds)):=qZ (aC hd) hx hy ht hp
theorem slc[Mode]{t:TypeId}{d0:D}{ds:List D}(hx:st.eval x=.cp (d0::ds))(ht:fZ P t)(hd:Nat.blt d n=true:=by exact rfl):aM P n ⟨some d,.load t x,ty,pos,af,gd⟩ st (st.set d (.d d0)):=nY (aC hd) hx ht
theorem aHd[Mode](es:List D){t:TypeId}{m:Nat}{ds:List D}(hx:st.eval x=.cp ds)(ht:jV P t m)(he:ds.take m=es:=by exact rfl)(hl:es.length=m:=by exact rfl)(hd:Nat.blt d n=true:=by exact rfl):aM P n ⟨some d,.load t x,ty,pos,af,gd⟩ st (st.set d (.agg es)):=aZz (aC hd) hx ht he hl
theorem sfc[Mode](es:List D){t f off:Nat}{ds:List D}(hx:st.eval x=.cp ds)(hf:eI P t f off)(he:(ds.drop off).take es.length=es:=by exact rfl)(hd:Nat.blt d n=true:=by exact rfl):aM P n ⟨some d,.fieldAddr t x f,ty,pos,af,gd⟩ st (st.set d (.cp es)):=aPd (aC hd) hx hf he
theorem sex[Mode]{vs:List AV}{i:Nat}{v:AV}(hx:st.eval x=.tup vs)(hv:vs[i]?=some v)(hd:Nat.blt d n=true:=by exact rfl):aM P n ⟨some d,.extract x i,ty,pos,af,gd⟩ st (st.set d v):=tK (aC hd) hx hv
theorem sle[Mode]{α:Type}{k:Nat}{f:α->List D}{xs:List α}{t:TypeId}{e kk:Nat}(hx:st.eval x=.d (.sl k (xs.map f)))(ht:kB P t e kk)(hd:Nat.blt d n=true:=by exact rfl):aM P n ⟨some d,.call {callee:=.builtin .len,args:= #[x],argTypes:= #[t]},ty,pos,af,gd⟩ st (st.set d (.i xs.length)):=aTa (aC hd) hx ht
theorem sc[Mode]{i:FuncId}{l:List Operand}{args args':List AV}{r:AV}{ts:Array TypeId}(hc:∀args w,(callFunc i args).run P w=.ok (.enter i args) w)(hf:Fn P i args' r)(hb:BVs st.objs args args')(ha:st.evals l=args:=by exact rfl)(hd:(Nat.blt d n&&(iN l&&r.isLit))=true:=by exact rfl):
  aM P n ⟨some d,.call {callee:=.value (.func i),args:=l.toArray,argTypes:=ts},ty,pos,af,gd⟩ st (st.set d r):=qS (aC (bb hd).1) (.func _ _ hc) ha (bb (bb hd).2).1 hb hf (bb (bb hd).2).2
theorem scr[Mode]{i:FuncId}{l:List Operand}{args:List AV}{r:AV}{ts:Array TypeId}(hc:∀args w,(callFunc i args).run P w=.ok (.enter i args) w)(hf:Fn P i args r)(ha:st.evals l=args:=by exact rfl)(hd:(Nat.blt d n&&(iN l&&r.isLit))=true:=by exact rfl):
  aM P n ⟨some d,.call {callee:=.value (.func i),args:=l.toArray,argTypes:=ts},ty,pos,af,gd⟩ st (st.set d r):=qS (aC (bb hd).1) (.func _ _ hc) ha (bb (bb hd).2).1 (BVs.refl _ _) hf (bb (bb hd).2).2
theorem tih[Mode]{c:Operand}{X Y:Code}{b:Bool}{α:Type}{e f:Option α}{r:α}(h:(bif b then e else f)=some r)(ht:b=true->e=some r->Tr P n X st Q)(hf:b=false->f=some r->Tr P n Y st Q)(hc:st.eval c=.d (.lit (.bool b)):=by exact rfl):Tr P n (.cond c X Y) st Q:=
 rA hc (λk=>ht k (aLs k h)) (λk=>hf k (aLr k h))
theorem tip[Mode]{c:Operand}{X Y:Code}{b:Bool}{e f:Prop}(h:bif b then e else f)(ht:b=true->e->Tr P n X st Q)(hf:b=false->f->Tr P n Y st Q)(hc:st.eval c=.d (.lit (.bool b)):=by exact rfl):Tr P n (.cond c X Y) st Q:=
 rA hc (λk=>ht k (bMf k h)) (λk=>hf k (bMe k h))
omit op x y ty pos af gd dst in
theorem bch{p:Prop}{b:Bool}{α:Type}{e f:Option α}{r:α}(h:(bif b then e else f)=some r)(h1:b=true->e=some r->p)(h2:b=false->f=some r->p):p:=aXo b (λk=>h1 k (aLs k h)) (λk=>h2 k (aLr k h))
variable{tab:Tab}{yes no:List Nat}{base:Nat->AV}{objs:List MO}{v:AV}{o:Oper}
def zev(tab:Tab)(yes no:List Nat)(base:Nat->AV):Operand->Option AV
 | .tmp k=>ovL tab yes no base k
 | .const v=>some (.d (.lit v))
 | .global _=>some .any
 | .func f=>some (.fn f [])
theorem gT{S:Nat->Bool}(hS:Knows S yes no)(h:zev tab yes no base x=some v):St.eval ⟨ov tab S base,objs⟩ x=v:=by
 cases x with
 |tmp k=>exact bI hS h
 |const u=>exact Option.some.inj h
 |global g=>exact Option.some.inj h
 |func f=>exact Option.some.inj h
theorem go[Mode]{i:Nat}(h:∀S,Knows S yes no->aM P n ⟨dst,op,ty,pos,af,none⟩ ⟨ov tab S base,objs⟩ ⟨upd (ov tab S base) d v,objs⟩)(hf:find tab d=some (i,v):=by exact rfl):
  ∀S,Knows S yes no->∃d v,find tab d=some (i,v)/\GStep P n ops ⟨dst,op,ty,pos,af,none⟩ ⟨ov tab S base,objs⟩ ⟨upd (ov tab S base) d v,objs⟩:=λS hS=>oJ hf (gG rfl (h S hS))
theorem gt[Mode]{i j s:Nat}{b c:Bool}(hc:c=b)(h:∀S,Knows S yes no->aM P n ⟨dst,op,ty,pos,af,some (j,b)⟩ ⟨ov tab S base,objs⟩ ⟨upd (ov tab S base) d v,objs⟩)(hf:find tab d=some (i,v):=by exact rfl)(hj:(ops[j]?).bind (·.dst)=some s:=by exact rfl)(hb:ovL tab yes no base s=some (.d (.lit (.bool c))):=by exact rfl)(hs:Nat.blt s n=true:=by exact rfl):
  ∀S,Knows S yes no->∃d v,find tab d=some (i,v)/\GStep P n ops ⟨dst,op,ty,pos,af,some (j,b)⟩ ⟨ov tab S base,objs⟩ ⟨upd (ov tab S base) d v,objs⟩:=λS hS=>oJ hf (cDm rfl hj (aC hs) (aOq (objs:=objs) hS hb) hc (h S hS))
theorem gp[Mode]{i j s:Nat}{b c:Bool}(hc:c=!b)(hf:find tab d=some (i,.tup []):=by exact rfl)(hj:(ops[j]?).bind (·.dst)=some s:=by exact rfl)(hb:ovL tab yes no base s=some (.d (.lit (.bool c))):=by exact rfl)(hs:(Nat.blt d n&&Nat.blt s n)=true:=by exact rfl):
  ∀S,Knows S yes no->∃e v,find tab e=some (i,v)/\GStep P n ops ⟨some d,op,ty,pos,af,some (j,b)⟩ ⟨ov tab S base,objs⟩ ⟨upd (ov tab S base) e v,objs⟩:=λ_ hS=>⟨d,.tup [],hf,cDl rfl rfl (aC (bb hs).1) hj (aC (bb hs).2) (aOq (objs:=objs) hS hb) hc⟩
theorem zm[Mode](v:AV)(hx:zev tab yes no base x=some v:=by exact rfl)(hd:(Nat.blt d n&&cD x)=true:=by exact rfl):∀S,Knows S yes no->aM P n ⟨some d,.move x,ty,pos,af,gd⟩ ⟨ov tab S base,objs⟩ ⟨upd (ov tab S base) d v,objs⟩:=λ_ hS=>dG (aC (bb hd).1) (gT hS hx) (bb hd).2
theorem za[Mode](v:AV)(hx:zev tab yes no base x=some v:=by exact rfl)(hd:(Nat.blt d n&&cD x)=true:=by exact rfl):∀S,Knows S yes no->aM P n ⟨some d,.assign x,ty,pos,af,gd⟩ ⟨ov tab S base,objs⟩ ⟨upd (ov tab S base) d v,objs⟩:=λ_ hS=>cS (aC (bb hd).1) (gT hS hx) (bb hd).2
theorem zf[Mode]{t f off b o j:Nat}(hx:zev tab yes no base x=some (.bp b o j))(hf:eI P t f off)(hd:Nat.blt d n=true:=by exact rfl):∀S,Knows S yes no->aM P n ⟨some d,.fieldAddr t x f,ty,pos,af,gd⟩ ⟨ov tab S base,objs⟩ ⟨upd (ov tab S base) d (.bp b o (j+off)),objs⟩:=λ_ hS=>jW (aC hd) (gT hS hx) hf
theorem zl[Mode](i:Nat){t:TypeId}{b o j:Nat}{ds:List D}{d0:D}(hx:zev tab yes no base x=some (.bp b o j))(ho:objs[i]?=some (.box b o ds))(hj:ds[j]?=some d0)(ht:fZ P t)(hd:Nat.blt d n=true:=by exact rfl):∀S,Knows S yes no->aM P n ⟨some d,.load t x,ty,pos,af,gd⟩ ⟨ov tab S base,objs⟩ ⟨upd (ov tab S base) d (.d d0),objs⟩:=λ_ hS=>tL (aC hd) (gT hS hx) ho hj ht
theorem zla[Mode](i:Nat)(es:List D){t:TypeId}{b o j m:Nat}{ds:List D}(hx:zev tab yes no base x=some (.bp b o j))(ho:objs[i]?=some (.box b o ds))(ht:jV P t m)(he:(ds.drop j).take m=es:=by exact rfl)(hl:es.length=m:=by exact rfl)(hd:Nat.blt d n=true:=by exact rfl):∀S,Knows S yes no->aM P n ⟨some d,.load t x,ty,pos,af,gd⟩ ⟨ov tab S base,objs⟩ ⟨upd (ov tab S base) d (.agg es),objs⟩:=λ_ hS=>tM (aC hd) (gT hS hx) ho ht he hl
theorem zar[Mode]{o:BinOp}{k:IntKind}{p q r:Int}{t u:TypeId}(hx:zev tab yes no base x=some (.d (.lit (.int k p))))(hy:zev tab yes no base y=some (.d (.lit (.int k q))))(hr:aXn o p q=some r)(hd:Nat.blt d n=true:=by exact rfl):∀S,Knows S yes no->aM P n ⟨some d,.binOp o t x y u,ty,pos,af,gd⟩ ⟨ov tab S base,objs⟩ ⟨upd (ov tab S base) d (.d (.lit (.int k (k.wrap r)))),objs⟩:=λ_ hS=>zU (aC hd) (gT hS hx) (gT hS hy) hr
theorem zcm[Mode]{o:BinOp}{k:IntKind}{p q:Int}{r:Bool}{t u:TypeId}(hx:zev tab yes no base x=some (.d (.lit (.int k p))))(hy:zev tab yes no base y=some (.d (.lit (.int k q))))(hr:cmp o p q=some r)(hd:Nat.blt d n=true:=by exact rfl):∀S,Knows S yes no->aM P n ⟨some d,.binOp o t x y u,ty,pos,af,gd⟩ ⟨ov tab S base,objs⟩ ⟨upd (ov tab S base) d (.b r),objs⟩:=λ_ hS=>yD (aC hd) (gT hS hx) (gT hS hy) hr
theorem zpt[Mode](v:AV){c:Operand}{b:Bool}(hb:b=true)(hc:zev tab yes no base c=some (.d (.lit (.bool b))):=by exact rfl)(hx:zev tab yes no base x=some v:=by exact rfl)(hd:(Nat.blt d n&&cD x)=true:=by exact rfl):∀S,Knows S yes no->aM P n ⟨some d,.pick c x y,ty,pos,af,gd⟩ ⟨ov tab S base,objs⟩ ⟨upd (ov tab S base) d v,objs⟩:=λ_ hS=>aFc (aC (bb hd).1) (gT hS hc) hb (gT hS hx) (bb hd).2
theorem zpf[Mode](v:AV){c:Operand}{b:Bool}(hb:b=false)(hc:zev tab yes no base c=some (.d (.lit (.bool b))):=by exact rfl)(hx:zev tab yes no base y=some v:=by exact rfl)(hd:(Nat.blt d n&&cD y)=true:=by exact rfl):∀S,Knows S yes no->aM P n ⟨some d,.pick c x y,ty,pos,af,gd⟩ ⟨ov tab S base,objs⟩ ⟨upd (ov tab S base) d v,objs⟩:=λ_ hS=>aJi (aC (bb hd).1) (gT hS hc) hb (gT hS hx) (bb hd).2
theorem zix[Mode]{t e k:Nat}{rows:List (List D)}{kd:IntKind}{p:Int}{ds:List D}(hx:zev tab yes no base x=some (.d (.sl k rows)))(hy:zev tab yes no base y=some (.d (.lit (.int kd p))))(ht:kB P t e k)(hp:idx rows p=some ds)(hd:Nat.blt d n=true:=by exact rfl):∀S,Knows S yes no->aM P n ⟨some d,.indexAddr t x y,ty,pos,af,gd⟩ ⟨ov tab S base,objs⟩ ⟨upd (ov tab S base) d (.cp ds),objs⟩:=λ_ hS=>qZ (aC hd) (gT hS hx) (gT hS hy) ht hp
theorem zia[Mode](m:Nat){t e k:Nat}{v:Value}{e':Nat}{rows:List (List D)}{kd:IntKind}{p:Int}{ds:List D}(hx:zev tab yes no base x=some (.d (.lit v)))(ho:objs[m]?=some (.arr v e' k rows))(hy:zev tab yes no base y=some (.d (.lit (.int kd p))))(ht:kB P t e k)(hp:idx rows p=some ds)(hd:Nat.blt d n=true:=by exact rfl):∀S,Knows S yes no->aM P n ⟨some d,.indexAddr t x y,ty,pos,af,gd⟩ ⟨ov tab S base,objs⟩ ⟨upd (ov tab S base) d (.ep v k p.toNat 0),objs⟩:=λ_ hS=>tY (aC hd) (gT hS hx) ho (gT hS hy) ht hp
theorem zlc[Mode]{t:TypeId}{d0:D}{ds:List D}(hx:zev tab yes no base x=some (.cp (d0::ds)))(ht:fZ P t)(hd:Nat.blt d n=true:=by exact rfl):∀S,Knows S yes no->aM P n ⟨some d,.load t x,ty,pos,af,gd⟩ ⟨ov tab S base,objs⟩ ⟨upd (ov tab S base) d (.d d0),objs⟩:=λ_ hS=>nY (aC hd) (gT hS hx) ht
theorem zfc[Mode](es:List D){t f off:Nat}{ds:List D}(hx:zev tab yes no base x=some (.cp ds))(hf:eI P t f off)(he:(ds.drop off).take es.length=es:=by exact rfl)(hd:Nat.blt d n=true:=by exact rfl):∀S,Knows S yes no->aM P n ⟨some d,.fieldAddr t x f,ty,pos,af,gd⟩ ⟨ov tab S base,objs⟩ ⟨upd (ov tab S base) d (.cp es),objs⟩:=λ_ hS=>aPd (aC hd) (gT hS hx) hf he
theorem zex[Mode]{vs:List AV}{i:Nat}{v:AV}(hx:zev tab yes no base x=some (.tup vs))(hv:vs[i]?=some v)(hd:Nat.blt d n=true:=by exact rfl):∀S,Knows S yes no->aM P n ⟨some d,.extract x i,ty,pos,af,gd⟩ ⟨ov tab S base,objs⟩ ⟨upd (ov tab S base) d v,objs⟩:=λ_ hS=>tK (aC hd) (gT hS hx) hv
theorem dok[Mode]{l:List Oper}{m:Nat}(yn:List (List Nat×List Nat))(h:AllSteps P n l.toArray tab st.env st.objs (l.take m) yn 0)(h1:(zX l&&(wL (cL l l.length) m l.length&&(Nat.ble m l.length&&(lX tab&&((tab.all λx=>Nat.blt x.2.1 m)&&aPt (cL l l.length) m yn)))))=true:=by kernel_rfl):bFu P n l m tab st:=
 ⟨(bb h1).1,(bb (bb h1).2).1,(bb (bb (bb h1).2).2).1,(bb (bb (bb (bb h1).2).2).2).1,(bb (bb (bb (bb (bb h1).2).2).2).2).1,yn,(bb (bb (bb (bb (bb h1).2).2).2).2).2,h⟩
theorem ym[Mode]{S:Nat->Bool}(hS:Knows S yes no)(v:AV)(hx:zev tab yes no base x=some v:=by exact rfl)(hd:(Nat.blt d n&&cD x)=true:=by exact rfl):aM P n ⟨some d,.move x,ty,pos,af,gd⟩ ⟨ov tab S base,objs⟩ ⟨upd (ov tab S base) d v,objs⟩:=dG (aC (bb hd).1) (gT hS hx) (bb hd).2
theorem yf[Mode]{S:Nat->Bool}(hS:Knows S yes no){t f off b o j:Nat}(hx:zev tab yes no base x=some (.bp b o j))(hf:eI P t f off)(hd:Nat.blt d n=true:=by exact rfl):aM P n ⟨some d,.fieldAddr t x f,ty,pos,af,gd⟩ ⟨ov tab S base,objs⟩ ⟨upd (ov tab S base) d (.bp b o (j+off)),objs⟩:=jW (aC hd) (gT hS hx) hf
theorem yl[Mode]{S:Nat->Bool}(hS:Knows S yes no)(i:Nat){t:TypeId}{b o j:Nat}{ds:List D}{d0:D}(hx:zev tab yes no base x=some (.bp b o j))(ho:objs[i]?=some (.box b o ds))(hj:ds[j]?=some d0)(ht:fZ P t)(hd:Nat.blt d n=true:=by exact rfl):aM P n ⟨some d,.load t x,ty,pos,af,gd⟩ ⟨ov tab S base,objs⟩ ⟨upd (ov tab S base) d (.d d0),objs⟩:=tL (aC hd) (gT hS hx) ho hj ht
theorem yla[Mode]{S:Nat->Bool}(hS:Knows S yes no)(i:Nat)(es:List D){t:TypeId}{b o j m:Nat}{ds:List D}(hx:zev tab yes no base x=some (.bp b o j))(ho:objs[i]?=some (.box b o ds))(ht:jV P t m)(he:(ds.drop j).take m=es:=by exact rfl)(hl:es.length=m:=by exact rfl)(hd:Nat.blt d n=true:=by exact rfl):aM P n ⟨some d,.load t x,ty,pos,af,gd⟩ ⟨ov tab S base,objs⟩ ⟨upd (ov tab S base) d (.agg es),objs⟩:=tM (aC hd) (gT hS hx) ho ht he hl
theorem yar[Mode]{S:Nat->Bool}(hS:Knows S yes no){o:BinOp}{k:IntKind}{p q r:Int}{t u:TypeId}(hx:zev tab yes no base x=some (.d (.lit (.int k p))))(hy:zev tab yes no base y=some (.d (.lit (.int k q))))(hr:aXn o p q=some r)(hd:Nat.blt d n=true:=by exact rfl):aM P n ⟨some d,.binOp o t x y u,ty,pos,af,gd⟩ ⟨ov tab S base,objs⟩ ⟨upd (ov tab S base) d (.d (.lit (.int k (k.wrap r)))),objs⟩:=zU (aC hd) (gT hS hx) (gT hS hy) hr
theorem yn[Mode]{S:Nat->Bool}(hS:Knows S yes no){b:Bool}{t:TypeId}(hx:zev tab yes no base x=some (.d (.lit (.bool b))))(hd:Nat.blt d n=true:=by exact rfl):aM P n ⟨some d,.unOp .not t x,ty,pos,af,gd⟩ ⟨ov tab S base,objs⟩ ⟨upd (ov tab S base) d (.b (!b)),objs⟩:=bAa (aC hd) (gT hS hx)
theorem yex[Mode]{S:Nat->Bool}(hS:Knows S yes no){vs:List AV}{i:Nat}{v:AV}(hx:zev tab yes no base x=some (.tup vs))(hv:vs[i]?=some v)(hd:Nat.blt d n=true:=by exact rfl):aM P n ⟨some d,.extract x i,ty,pos,af,gd⟩ ⟨ov tab S base,objs⟩ ⟨upd (ov tab S base) d v,objs⟩:=tK (aC hd) (gT hS hx) hv
section
variable{tabX:Mk->Tab}{obs:Mk->List Stg}{X:Mk}{S:Nat->Bool}{i:Nat}
theorem xp[Mode](hw:∀X,lX (tabX X)=true)(h:aM P n ⟨dst,op,ty,pos,af,none⟩ ⟨ov (tabX X) S base,gQ S (obs X)⟩ ⟨upd (ov (tabX X) S base) d v,gQ S (obs X)⟩)(hf:find (tabX X) d=some (i,v):=by exact rfl)(hr:aLy i (obs X)=true:=by exact rfl):
  aJq P n ops ⟨dst,op,ty,pos,af,none⟩ tabX base obs i X S:=aDz hf (hw X) hr (gG rfl h)
theorem xs[Mode](p:Nat){s0:Stg}{mo:MO}(hS:Knows S yes (i::no))(hp:(obs X)[p]?=some s0)(hm:aOp (i::yes) no s0.1 s0.2=some mo)(h:aM P n ⟨dst,op,ty,pos,af,none⟩ ⟨ov (tabX X) S base,gQ S (obs X)⟩ ⟨ov (tabX X) S base,(gQ S (obs X)).set p mo⟩)
  (hno:aV i no=false:=by exact rfl)(hn:aTx i (tabX X)=true:=by exact rfl)(ho:aJc i p (obs X)=true:=by exact rfl):aJq P n ops ⟨dst,op,ty,pos,af,none⟩ tabX base obs i X S:=cCk hS hno hn ho hp hm (gG rfl h)
end
def dg:Nat->Nat->List Nat->List Nat
 |0,_,acc=>acc
 |f+1,n,acc=>bif Nat.beq n 0 then acc else dg f (n/100) ((n % 100-1)::acc)
def yc(n:Nat):List Nat×List Nat:=(dg 40 n [],[])
def yx(n:Nat×Nat):List Nat×List Nat:=(dg 40 n.1 [],dg 40 n.2 [])
theorem dk[Mode]{l:List Oper}{m:Nat}(c:List Nat)(h:AllSteps P n l.toArray tab st.env st.objs (l.take m) (c.map yc) 0)(h1:(zX l&&(wL (cL l l.length) m l.length&&(Nat.ble m l.length&&(lX tab&&((tab.all λx=>Nat.blt x.2.1 m)&&aPt (cL l l.length) m (c.map yc))))))=true:=by kernel_rfl):bFu P n l m tab st:=dok (c.map yc) h h1
theorem xok[Mode]{l:List Oper}{m q:Nat}{tabX:Mk->Tab}{obs:Mk->List Stg}(c:List (Nat×Nat))(h:XSteps P n l.toArray tabX st.env obs (l.take m) (c.map yx) 0)(h1:(zX l&&(wL (cL l l.length) m l.length&&(Nat.ble m l.length&&aPt (cL l l.length) m (c.map yx))))=true:=by kernel_rfl)
  (h2:∀X,(lX (tabX X)&&(((tabX X).all λx=>Nat.blt x.2.1 m)&&aGf m (obs X)))=true:=by exactλ_=>by kernel_rfl)(h3:∀X,gQ (λ_=>false) (obs X)=st.objs++List.replicate q nob:=by exactλ_=>rfl):XOK P n l m q tabX obs st:=
 ⟨(bb h1).1,(bb (bb h1).2).1,(bb (bb (bb h1).2).2).1,λX=>(bb (h2 X)).1,λX=>(bb (bb (h2 X)).2).1,λX=>(bb (bb (h2 X)).2).2,h3,_,(bb (bb (bb h1).2).2).2,h⟩
theorem oT[Mode]{f:FuncId}{fn:Func}{c:Code}{args:List AV}{r:AV}{N:Nat}(rs:List ResultVar)(hf:P.funcs[f]?=some fn)(hr:fn.results=rs.toArray)(hn:fn.ntmps=N)(h:Tr P N c ⟨entry args,[]⟩ (λe st=>e=.ret/\∃r',aVe st rs r'/\r'=r/\st.objs=[]))(hb:fn.body=some c:=by exact rfl)(ha:Nat.ble args.length N=true:=by exact rfl):Fn P f args r:=
 Fn.of_tr hf hb hr hn (Nat.le_of_ble_eq_true ha) h
theorem rt[Mode](h:Q .ret st:=by exact⟨rfl,_,.one _,rfl,rfl⟩):Tr P n .ret st Q:=cW h
end
end Go.Am
end
section
section
section
namespace Go.Am
class FA (P:Program) (s f:Nat) (off:outParam Nat):Prop where h:eI P s f off
class I1 (P:Program) (t:TypeId):Prop where h:fZ P t
class SO (P:Program) (t:TypeId) (e k:outParam Nat):Prop where h:kB P t e k
structure uN(k:Nat)(p:Prop):Prop where h:p
structure Wr(p:Prop):Prop where h:p
theorem bd0{p:Prop}(z:Wr p):uN 0 p:=⟨z.h⟩
section
variable{P:Program}{n d k:Nat}{st st':St}{Q:Exit->St->Prop}{N:St->Prop}{ops:Array Oper}{rest:List Oper}{op:Op}{ty:TypeId}{pos:String}{af:Array Edge}{dst:Option Nat}
theorem q1[Mode](h:aM P n ⟨dst,op,ty,pos,af,none⟩ st st')(hr:uN k (TrL P n ops rest st' Q)):uN (k+1) (TrL P n ops (⟨dst,op,ty,pos,af,none⟩::rest) st Q):=⟨tr1 rfl h hr.h⟩
theorem q2[Mode]{j s:Nat}{b c:Bool}(hj:(ops[j]?).bind (·.dst)=some s)(hb:st.env s=.d (.lit (.bool c)))(hc:c=b)(hs:Nat.blt s n=true)(h:aM P n ⟨dst,op,ty,pos,af,some (j,b)⟩ st st')(hr:uN k (TrL P n ops rest st' Q)):
  uN (k+1) (TrL P n ops (⟨dst,op,ty,pos,af,some (j,b)⟩::rest) st Q):=⟨wK rfl hj (aC hs) hb hc h hr.h⟩
theorem q3[Mode]{j s:Nat}{b c:Bool}(hj:(ops[j]?).bind (·.dst)=some s)(hb:st.env s=.d (.lit (.bool c)))(hc:c=!b)(hs:(Nat.blt d n&&Nat.blt s n)=true)(hr:uN k (TrL P n ops rest (st.set d (.tup [])) Q)):
  uN (k+1) (TrL P n ops (⟨some d,op,ty,pos,af,some (j,b)⟩::rest) st Q):=⟨aMs rfl rfl (aC (bb hs).1) hj (aC (bb hs).2) hb hc hr.h⟩
theorem q4[Mode]{j s:Nat}{b:Bool}(hj:(ops[j]?).bind (·.dst)=some s)(hb:st.env s=.tup [])(hs:(Nat.blt d n&&Nat.blt s n)=true)(hr:uN k (TrL P n ops rest (st.set d (.tup [])) Q)):
  uN (k+1) (TrL P n ops (⟨some d,op,ty,pos,af,some (j,b)⟩::rest) st Q):=⟨bKc rfl rfl (aC (bb hs).1) hj (aC (bb hs).2) hb hr.h⟩
theorem q5[Mode](h:uN k (N st)):uN (k+1) (TrL P n ops [] st (nO N Q)):=⟨aP h.h⟩
theorem q6[Mode]{id:Nat}{l:List Oper}(h:uN k (TrL P n l.toArray l st Q)):uN (k+1) (Tr P n (.region id l.toArray false) st Q):=⟨aO h.h⟩
theorem q7[Mode]{x y:Code}(h:uN k (Tr P n x st (nO (λs=>Tr P n y s Q) Q))):uN (k+1) (Tr P n (.seq x y) st Q):=⟨aZ h.h⟩
theorem q8[Mode](h:uN k (N st)):uN (k+1) (Tr P n .skip st (nO N Q)):=⟨xJ h.h⟩
theorem q9[Mode]{id:Nat}{c:Code}(h:uN k (Tr P n c st (aCs id N (nO N Q)))):uN (k+1) (Tr P n (.block id c) st (nO N Q)):=⟨zL h.h⟩
end
theorem aKw{l:List MO}{m:MO}{i:Nat}(h:l[i]?=some m):l[i]?=some m:=h
theorem au (k : Nat){G G':Prop}(hr:G')(h:Wr G'->uN k G:=by
    intro z
    repeat (first
      |refine q7 ?_
      |refine q6 ?_
      |refine q5 ?_
      |refine q8 ?_
      |refine q9 ?_
      | (first
         |apply q1
         | (apply q2
            case hj=>exact rfl
            case hb=>exact rfl
            case hc=>first|assumption|exact rfl
            case hs=>exact rfl)
         case h =>first
           | (with_reducible apply dG
              case hd=>exact aC rfl
              case hk=>exact rfl
              case hx=>first
                |exact(rfl:_=AV.d _)
                |exact(rfl:_=AV.tup _)
                |exact(rfl:_=AV.agg _)
                |exact(rfl:_=AV.bp _ _ _)
                |exact(rfl:_=AV.cp _))
           | (with_reducible apply cS
              case hd=>exact aC rfl
              case hk=>exact rfl
              case hx=>first
                |exact(rfl:_=AV.d _)
                |exact(rfl:_=AV.agg _)
                |exact(rfl:_=AV.bp _ _ _)
                |exact(rfl:_=AV.cp _)
                |exact(rfl:_=AV.tup _))
           | (with_reducible apply yD
              case hd=>exact aC rfl
              case hx=>exact rfl
              case hy=>exact rfl
              case hr=>exact rfl)
           | (with_reducible apply zU
              case hd=>exact aC rfl
              case hx=>exact rfl
              case hy=>exact rfl
              case hr=>exact rfl)
           | (with_reducible apply jW
              case hd=>exact aC rfl
              case hx=>exact rfl
              case hf=>exact FA.h)
           | (with_reducible apply tL
              case hd=>exact aC rfl
              case hx=>exact rfl
              case ho=>first
                |exact aKw rfl (i:=0)
                |exact aKw rfl (i:=1)
                |exact aKw rfl (i:=2)
                |exact aKw rfl (i:=3)
                |exact aKw rfl (i:=4)
                |exact aKw rfl (i:=5)
                |exact aKw rfl (i:=6)
                |exact aKw rfl (i:=7)
                |exact aKw rfl (i:=8)
                |exact aKw rfl (i:=9)
              case hj=>exact rfl
              case ht=>exact I1.h)
           |exact sex rfl rfl
           |exact scm rfl rfl rfl
           |exact sar rfl rfl rfl
           |exact sn rfl
           |exact sle rfl SO.h
           |exact spt (.d _) (by assumption)
           |exact spf (.d _) (by assumption)
           |exact slc rfl I1.h
         case' hr=>skip)
      |refine q4 rfl rfl rfl ?_
      |refine q3 rfl rfl (by first|assumption|rfl) rfl ?_)
    exact bd0 z):G:=(h ⟨hr⟩).h
end Go.Am
end
section
namespace Go.Am
def cDt(h:Nat):Option MO:=bif Nat.ble 1000000000 h then some (.arr (.slice none 0 0) ((h-1000000000)/1000) ((h-1000000000) % 1000) []) else none
theorem bLz{l n:List MO}{i:Nat}{m:MO}(h:l[i]?=some m):(l++n)[i]?=some m:=by
 rw[List.getElem?_append_left (List.getElem?_eq_some_iff.1 h).1];exact h
theorem RVc.app{P:Program}{env:Nat->AV}{l n:List MO}{x:ResultVar}{r:AV}(h:RVc P ⟨env,l⟩ x r):RVc P ⟨env,l++n⟩ x r:=by
 cases h with
 |tmp t h=>exact .tmp t h
 |cell a t ha ho ht he hl=>exact .cell a t ha (bLz ho) ht he hl
 |cell1 a t ha ho ht he=>exact .cell1 a t ha (bLz ho) ht he
theorem ResW.app{P:Program}{env:Nat->AV}{l n:List MO}{rs:List ResultVar}{r:AV}(h:ResW P ⟨env,l⟩ rs r):ResW P ⟨env,l++n⟩ rs r:=by
 cases h with
 |one h=>exact .one h.app
 |two h h2=>exact .two h.app h2.app
 |three h h2 h3=>exact .three h.app h2.app h3.app
 |none=>exact .none
def aCr(l:List (Nat×Nat×Value)):qT:=λh=>l.getD (h-100000) (0,0,undef)
theorem bOt{P:Program}{st st':St}{c:Callee}{l:List Operand}{f:FuncId}{a:List AV}(h:mD P st c l f a)(he:st'.env=st.env):mD P st' c l f a:=by
 have hev:∀l,st'.evals l=st.evals l:=by
  intro l;have:∀x,st'.eval x=st.eval x:=λx=>by cases x<;>simp[St.eval,he]
  induction l with
  |nil=>rfl
  |cons x l ih=>simp only[St.evals,this x,ih]
 cases h with
 |func f l h=>rw[<-hev l];exact .func f l h
 |clo t f caps l h ht=>rw[<-hev l];exact .clo t f caps l h (by rw[he];exact ht)
 |fc t f m xs l h ht=>rw[<-hev l];exact .fc t f m xs l h (by rw[he];exact ht)
def tP:List Nat->List (Nat×VO)->List (Nat×VO)
 |[],l=>l
 |h::hs,l=>tP hs (fV h l)
def tR(h:Nat)(hs:List Nat):Bool:=hs.all λk=>!(Nat.beq h k)
def aBn:List Nat->Bool
 |[]=>true
 |h::hs=>tR h hs&&aBn hs
theorem aSk{h k:Nat}(hk:Nat.beq h k=false):∀{l:List (Nat×VO)},ob (fV h l) k=ob l k
 |[]=>rfl
 | p::l=>by
  simp only[fV];cases hb:Nat.beq p.1 h with
  | true=>
   have:=Nat.eq_of_beq_eq_true hb;simp only[cond_true,ob];rw[this,hk];rfl
  | false=>
   simp only[cond_false,ob];cases Nat.beq p.1 k with
   |true=>rfl
   |false=>exact aSk hk
theorem bMz{k:Nat}:∀{hs:List Nat} {l:List (Nat×VO)},tR k hs=true->ob (tP hs l) k=ob l k
 |[],_,_=>rfl
 | h::hs,l,hd=>by
  simp only[tR,List.all_cons,Bool.and_eq_true,Bool.not_eq_true'] at hd;simp only[tP];rw[bMz (by simp only[tR];exact hd.2)];refine aSk ?_;cases hb:Nat.beq h k with
  |false=>rfl
  |true=>have:=Nat.eq_of_beq_eq_true hb;subst this;rw[Nat.beq_refl] at hd;cases hd.1
theorem bHa{ρ:Rho}:∀{ps:List (Nat×VO)} {l:List (Nat×VO)},aBn (ps.map (·.1))=true->(∀p∈ps,ob l p.1=some p.2)->(l.map λp=>ρ.mo p.1 p.2).Perm ((ps.map λp=>ρ.mo p.1 p.2)++(tP (ps.map (·.1)) l).map λp=>ρ.mo p.1 p.2)
 |[],l,_,_=>by simp[tP]
 | p::ps,l,hn,ho=>by
  simp only[List.map_cons,aBn,Bool.and_eq_true] at hn;obtain⟨i,_,_,h3⟩:=sE (ρ:=ρ) (ho p (by simp));have ih:=bHa (ρ:=ρ) (ps:=ps) (l:=fV p.1 l) hn.2 λq hq=>by
   rw[aSk ?_]
   ·exact ho q (List.mem_cons_of_mem _ hq)
   ·have:=hn.1;simp only[tR,List.all_eq_true,Bool.not_eq_true'] at this;exact this _ (List.mem_map.2 ⟨q,hq,rfl⟩)
  simp only[List.map_cons,List.cons_append,tP];exact h3.trans (.cons _ ih)
theorem bGu:∀{ns:List (Nat×VO)} {l:List (Nat×VO)},aBn (ns.map (·.1))=true->(∀p∈ns,l.any (λq=>Nat.beq q.1 p.1)=false)->chg (ns.map λp=>(p.1,some p.2)) l=l++ns
 |[],l,_,_=>by simp[chg]
 | p ::ns,l,hn,hl=>by
  simp only[List.map_cons,aBn,Bool.and_eq_true] at hn;simp only[List.map_cons,chg];have e:fD p.1 p.2 l=l++[p]:=by
   have h0:=hl p (by simp)
   clear hl
   induction l with
   |nil=>rfl
   | cons q l ih=>
    simp only[List.any_cons,Bool.or_eq_false_iff] at h0;simp only[fD,h0.1,cond_false,List.cons_append,ih h0.2]
  rw[e,bGu hn.2]
  ·simp
  ·intro q hq;rw[List.any_append,hl q (List.mem_cons_of_mem _ hq)];have:=hn.1;simp only[tR,List.all_eq_true,Bool.not_eq_true'] at this
   simp[this _ (List.mem_map.2 ⟨q,hq,rfl⟩)]
theorem bXk{ρ:Rho}{h:Nat}{m m':VO}{l:List (Nat×VO)}(hm:ob l h=some m):((fD h m' l).map λp=>ρ.mo p.1 p.2).Perm (ρ.mo h m'::(fV h l).map λp=>ρ.mo p.1 p.2):=by
 induction l with
 |nil=>cases hm
 | cons p l ih=>
  simp only[ob] at hm;simp only[fD,fV];cases hb:Nat.beq p.1 h with
  |true=>have:=Nat.eq_of_beq_eq_true hb;subst this;exact .refl _
  | false=>
   rw[hb] at hm;simp only[cond_false,List.map_cons];exact(List.Perm.cons _ (ih (by simpa using hm))).trans (.swap _ _ _)
section
variable{P:Program}{n d:Nat}{S:VS}{ty:TypeId}{pos:String}{af:Array Edge}{gd:Option (Nat×Bool)}{K:Eff->Prop}{c:Callee}{l:List Operand}{ts:Array TypeId}{f:FuncId}{ars:List AV}
theorem cow[Mode]{α γ:Type}{sh:Option α}{g:α->Option γ}{rr:γ}{e kk:Nat}{rows:α->List (List D)}{args':List AV}(he:∀args w,(callFunc f args).run P w=.ok (.enter f args) w)
  (hf:∀x,sh=some x->bC P f args' [] (λr' o'=>∃w,r'=.d (.lit w)/\o'=[.arr w e kk (rows x)]))(h:sh.bind g=some rr)
  (k:∀x,g x=some rr->bPl (ars.flatMap (aUi S.objs)) λus=>K ⟨.d (.hv 0 d 0),[(d,some (.arr e kk (rows x)))],us,[d]⟩)(hp:∀x,eG (rows x).flatten=true:=by exactλx=>bDu (λ_=>rfl) x)
  (hc:qF S l c=some (f,ars):=by exact rfl)(hv:nlL (ars.map (vA S.objs)) args'=args':=by exact rfl)(hok:(Nat.ble (d+1) n&&(iN l&&args'.all okA))=true:=by exact rfl):
  cA P n ⟨some d,.call ⟨c,l.toArray,ts⟩,ty,pos,af,gd⟩ S K:=by
 obtain⟨x,hx,h⟩:=bind_some h;simp only[Bool.and_eq_true] at hok;refine⟨⟨_,bIb (K:=λus=>K ⟨.d (.hv 0 d 0),[(d,some (.arr e kk (rows x)))],us,[d]⟩) (k x h),aUc λS' hA ρ=>bNv λhro=>?_⟩⟩;obtain⟨a0,h1,h2⟩:=aJt hA hc he ρ;refine bLp (Nat.le_of_ble_eq_true hok.1) h1 h2 hok.2.1 ?_ (hf x hx) (hp x);have hro':sW (S'.objs.map λp=>ρ.mo p.1 p.2):=hro;have hok2:=hok.2.2;rw[<-hv] at hok2|-;exact aTw (λx hx ha=>aKr ρ hro' (bKf λk hk=>hA.ob k (bEp hx hk)) ha) hok2
end
end Go.Am
end
end
section
namespace Go.Am
theorem aTp{α β:Type}{kv:α->Value}{enc:β->List D}{agg:Bool}(l:List (α×β)):(l.map λp=>(kv p.1,enc p.2)).map (elE agg)=l.map λp=>(kv p.1,nC agg (enc p.2)):=by
 rw[List.map_map];rfl
theorem bJq{α:Type}{l:List α}{i:Nat}{m:α}(h:l[i]?=some m):l.set i m=l:=by
 obtain⟨hi,hg⟩:=List.getElem?_eq_some_iff.1 h;rw[<-hg,List.set_getElem_self]
section
variable{P:Program}{n d:Nat}{S:VS}{us:List Nat}{op:Op}{ty:TypeId}{pos:String}{af:Array Edge}{gd:Option (Nat×Bool)}{K:Eff->Prop}
theorem bCq[Mode]{h:Nat}{agg:Bool}{es:List (Value×List D)}{v:AV}(hm:ob S.objs h=some (.map agg es))(hu:h∈us)
  (hs:∀S',Agr op S S' us->∀(ρ:Rho) (st:St) (i:Nat) (bs:List Nat) (ck:Nat),st.env=(S'.at ρ).env->st.objs[i]?=some (MO.map (ρ.bb h) (es.map (elE agg)) bs ck)->aM P n ⟨some d,op,ty,pos,af,gd⟩ st (st.set d (ρ.av v))):mT P n ⟨some d,op,ty,pos,af,gd⟩ S (.r v us):=by
 intro S' hA _ ρ;obtain⟨i,h1,h2,_⟩:=sE (ρ:=ρ) ((hA.ob h hu).trans hm);have hi:=(List.getElem?_eq_some_iff.1 h1).1;refine aUf (i:=i) h1 λbs ck h0=>dJ (hs S' hA ρ ⟨(S'.at ρ).env,(S'.at ρ).objs.set i _⟩ i bs ck rfl (by simp[VS.at,List.getElem?_set,show i<S'.objs.length by simpa using hi])) ?_;rintro s rfl;refine⟨ρ,rfl,?_⟩;have e:=qP (ρ:=ρ) S' d v;refine(aRm (env:=(St.set (S'.at ρ) d (ρ.av v)).env) hi h0).trans (lA ?_);have e2:(S'.at ρ).objs.set i (mx (ρ.bb h) agg es)=(S'.at ρ).objs:=by
  exact bJq h1
 exact(congrArg (St.mk _) e2).trans e
theorem cBw[Mode]{dst:Option Nat}{h:Nat}{agg:Bool}{es es':List (Value×List D)}{v:AV}(hm:ob S.objs h=some (.map agg es))(hu:h∈us)(h1':agg=false->∀e∈es',e.2.length=1)
  (hs:∀S',Agr op S S' us->∀(ρ:Rho) (st:St) (i:Nat) (bs:List Nat) (ck:Nat),st.env=(S'.at ρ).env->st.objs[i]?=some (MO.map (ρ.bb h) (es.map (elE agg)) bs ck)->Step P n ⟨dst,op,ty,pos,af,gd⟩ st (λs=>∃bs' ck',s=⟨(match dst with|some d=>upd st.env d (ρ.av v)|none=>st.env),st.objs.set i (.map (ρ.bb h) (es'.map (elE agg)) bs' ck')⟩)):mT P n ⟨dst,op,ty,pos,af,gd⟩ S ⟨v,[(h,some (.map agg es'))],us,[]⟩:=by
 intro S' hA _ ρ;obtain⟨i,h1,h2,_⟩:=sE (ρ:=ρ) ((hA.ob h hu).trans hm);have hi:=(List.getElem?_eq_some_iff.1 h1).1;refine aUf (i:=i) h1 λbs ck _=>dJ (hs S' hA ρ ⟨(S'.at ρ).env,(S'.at ρ).objs.set i _⟩ i bs ck rfl (by simp[VS.at,List.getElem?_set,show i<S'.objs.length by simpa using hi])) ?_;rintro s ⟨bs',ck',rfl⟩;refine⟨ρ,rfl,?_⟩;simp only[List.set_set];refine(aRm hi h1').trans (lA ?_);have e2:(S'.at ρ).objs.set i (mx (ρ.bb h) agg es')=(fD h (.map agg es') S'.objs).map λp=>ρ.mo p.1 p.2:=h2 (.map agg es');refine(congrArg (St.mk _) e2).trans ?_;cases dst with
 |none=>rfl
 | some d=>
  simp only[VS.app,chg];have e:=qP (ρ:=ρ) ⟨S'.env,fD h (.map agg es') S'.objs⟩ d v;exact e
theorem evE{S':VS}{st:St}{x:Operand}{v:AV}{ρ:Rho}(he:st.env=(S'.at ρ).env)(hA:Agr op S S' us)(hx:x∈op.operands.toList)(h:S.ev x=v):st.eval x=ρ.av v:=by
 have:=evS (ρ:=ρ) hA hx h;cases x<;>simpa[St.eval,he] using this
variable{t kt et:TypeId}{α β:Type}[DecidableEq α]{kv:α->Value}{enc:β->List D}{agg:Bool}{l:List (α×β)}{z:β}{zv:Value}{a:α}{x y:Operand}{h:Nat}
theorem olk[Mode](hk:mX P kt kv)(ht:P.underlying t=some (.map kt et))(hz:∀w,(zeroValue et).run P w=.ok zv w)(hzv:∀w X,VR w X (nC agg (enc z)) zv){yv:AV}(hy:uB kv yv a)(k:K (.r (nC agg (enc (cE a z l))) [h]))
  (hx:S.ev x=.d (.hv 1 h 0):=by exact rfl)(hm:ob S.objs h=some (.map agg (l.map λp=>(kv p.1,enc p.2))):=by exact rfl)(hok:(Nat.ble (d+1) n&&(cD y&&okA yv))=true:=by exact rfl)(hyv:S.ev y=yv:=by exact rfl)(hav:∀v,okA (nC agg (enc v))=true:=by exactλ_=>rfl):
  cA P n ⟨some d,.lookup t x y false,ty,pos,af,gd⟩ S K:=by
 simp only[Bool.and_eq_true] at hok;refine⟨⟨_,k,bCq hm (by simp) λS' hA ρ st i bs ck he ho=>?_⟩⟩;rw[aAi ρ (hav _)];rw[aTp] at ho;exact aWv (av:=λv=>nC agg (enc v)) (Nat.le_of_ble_eq_true hok.1) hk ht hz hzv (evE he hA (by simp[Op.operands]) hx) ho hok.2.1 (evE he hA (by simp[Op.operands]) hyv) (by rw[aAi ρ hok.2.2];exact hy)
theorem cGv[Mode](hk:mX P kt kv)(ht:P.underlying t=some (.map kt et))(hz:∀w,(zeroValue et).run P w=.ok zv w)(hzv:∀w X,VR w X (nC agg (enc z)) zv){yv:AV}(hy:uB kv yv a)(k:K (.r (.tup [nC agg (enc (cE a z l)),.b (cI a l)]) [h]))
  (hx:S.ev x=.d (.hv 1 h 0):=by exact rfl)(hm:ob S.objs h=some (.map agg (l.map λp=>(kv p.1,enc p.2))):=by exact rfl)(hok:(Nat.ble (d+1) n&&(cD y&&okA yv))=true:=by exact rfl)(hyv:S.ev y=yv:=by exact rfl)(hav:∀v,ok1 (nC agg (enc v))=true:=by exactλ_=>rfl):
  cA P n ⟨some d,.lookup t x y true,ty,pos,af,gd⟩ S K:=by
 simp only[Bool.and_eq_true] at hok;refine⟨⟨_,k,bCq hm (by simp) λS' hA ρ st i bs ck he ho=>?_⟩⟩;have e:ρ.av (.tup [nC agg (enc (cE a z l)),.b (cI a l)])=.tup [nC agg (enc (cE a z l)),.b (cI a l)]:=by
  show AV.tup [_,_]=_;rw[aSm ρ (hav _)];rfl
 rw[e];rw[aTp] at ho;exact aIa (av:=λv=>nC agg (enc v)) (Nat.le_of_ble_eq_true hok.1) hk ht hz hzv (evE he hA (by simp[Op.operands]) hx) ho hok.2.1 (evE he hA (by simp[Op.operands]) hyv) (by rw[aAi ρ hok.2.2];exact hy)
theorem oup[Mode]{q:Operand}{v:β}(hk:mX P kt kv)(ht:P.underlying t=some (.map kt et)){yv:AV}(hy:uB kv yv a)(k:K ⟨.any,[(h,some (.map agg ((eM a v l).map λp=>(kv p.1,enc p.2))))],[h],[]⟩)
  (hx:S.ev x=.d (.hv 1 h 0):=by exact rfl)(hm:ob S.objs h=some (.map agg (l.map λp=>(kv p.1,enc p.2))):=by exact rfl)(hok:((cD q&&cD y)&&okA yv)=true:=by exact rfl)(hyv:S.ev y=yv:=by exact rfl)(hv:S.ev q=nC agg (enc v):=by exact rfl)(hav:∀v,okA (nC agg (enc v))=true:=by exactλ_=>rfl)(hl:agg=true\/∀v,(enc v).length=1:=by first|exact .inl rfl|exact .inr λ_=>rfl):
  cA P n ⟨none,.mapUpdate t x y q,ty,pos,af,gd⟩ S K:=by
 simp only[Bool.and_eq_true] at hok;refine⟨⟨_,k,cBw hm (by simp) ?_ λS' hA ρ st i bs ck he ho=>?_⟩⟩
 ·intro hf e hme;obtain⟨p,_,rfl⟩:=List.mem_map.1 hme
  rcases hl with hl|hl
  ·rw[hf] at hl;cases hl
  ·exact hl _
 ·rw[aTp] at ho|-;refine dJ (aAn (av:=λv=>nC agg (enc v)) (v:=v) (a:=a) hk ht (evE he hA (by simp[Op.operands]) hx) ho hok.1.2 (evE he hA (by simp[Op.operands]) hyv) (by rw[aAi ρ hok.2];exact hy) hok.1.1 ?_) ?_
  ·rw[evE he hA (by simp[Op.operands]) hv,aAi ρ (hav _)]
  ·rintro s rfl;exact⟨_,_,rfl⟩
theorem omm[Mode](agg:Bool)(k:K ⟨.d (.hv 1 d 0),[(d,some (.map agg []))],[],[d]⟩)(hd:Nat.ble (d+1) n=true:=by exact rfl):cA P n ⟨some d,.makeMap t none,ty,pos,af,gd⟩ S K:=by
 refine⟨⟨_,k,λS' hA hn ρ=>?_⟩⟩;obtain⟨hf,hl⟩:=hn d (by simp);refine dJ (aGj (Nat.le_of_ble_eq_true hd)) ?_;rintro s ⟨r,rfl⟩;have H:=aWm (ρ:=ρ) (h:=d) r 0;refine⟨ρ.setB d r 0,rfl,?_⟩;obtain⟨e1,e2⟩:=bNl (ρ:=ρ) hl r 0;have h1:=H.at hf;have h2:=qP (ρ:=ρ.setB d r 0) S' d (.d (.hv 1 d 0));have hh:(ρ.setB d r 0).av (.d (.hv 1 d 0))=.d (.lit (.map (some r))):=by simp only[Rho.av,Rho.a0,Rho.dd,e1]
 rw[h1,hh] at h2;have hE:=aRm (env:=upd (S'.at ρ).env d (.d (.lit (.map (some r))))) (objs:=(S'.at ρ).objs++[MO.map r [] [] 0]) (i:=(S'.at ρ).objs.length) (r:=r) (agg:=agg) (es:=[]) (bs:=[]) (ck:=0) (by simp) (λ_ e he=>by cases he);have s1:((S'.at ρ).objs++[MO.map r [] [] 0]).set (S'.at ρ).objs.length (.map r (([]:List (Value×List D)).map (elE agg)) [] 0)=(S'.at ρ).objs++[MO.map r [] [] 0]:=by simp
 have s2:((S'.at ρ).objs++[MO.map r [] [] 0]).set (S'.at ρ).objs.length (mx r agg [])=(S'.at ρ).objs++[mx r agg []]:=by simp
 rw[s1,s2] at hE;refine hE.trans (lA ?_);simp only[VS.app,chg,aEx _ (aCh hf)];have h3:(VS.mk ((d,AV.d (.hv 1 d 0))::S'.env) (S'.objs++[(d,VO.map agg [])])).at (ρ.setB d r 0)=(St.mk ((VS.mk ((d,AV.d (.hv 1 d 0))::S'.env) S'.objs).at (ρ.setB d r 0)).env (((VS.mk ((d,AV.d (.hv 1 d 0))::S'.env) S'.objs).at (ρ.setB d r 0)).objs++[(ρ.setB d r 0).mo d (.map agg [])])):=by
  simp[VS.at]
 rw[h3,<-h2];simp only[St.set,Rho.mo,e1]
omit[DecidableEq α] in
theorem olm[Mode](ht:P.underlying t=some (.map kt et))(k:K (.r (.i l.length) [h]))(hx:S.ev x=.d (.hv 1 h 0):=by exact rfl)(hm:ob S.objs h=some (.map agg (l.map λp=>(kv p.1,enc p.2))):=by exact rfl)(hd:Nat.ble (d+1) n=true:=by exact rfl):
  cA P n ⟨some d,.call {callee:=.builtin .len,args:= #[x],argTypes:= #[t]},ty,pos,af,gd⟩ S K:=by
 refine⟨⟨_,k,bCq hm (by simp) λS' hA ρ st i bs ck he ho=>?_⟩⟩;rw[aTp] at ho;exact bJj (Nat.le_of_ble_eq_true hd) ht (evE he hA (by simp[Op.operands,Call.operands]) hx) ho
theorem cBj{x:Operand}{v:AV}(h:S.ev x=v)(hv:∀u,v≠.d (.lit u))(ha:v≠.any)(hf:∀f,v≠.fn f []):cD x=true:=by
 cases x with
 |tmp=>rfl
 |const u=>exact absurd h.symm (hv u)
 |global=>exact absurd h.symm ha
 |func f=>exact absurd h.symm (hf f)
theorem bZp[Mode](hk:mX P kt kv)(ht:P.underlying t=some (.map kt et))(hz:∀w,(zeroValue et).run P w=.ok zv w)(hzv:∀w X,VR w X (nC agg (enc z)) zv){yv:AV}(hy:uB kv yv a)(k:K (.p (.tup [nC agg (enc (cE a z l)),.b (cI a l)])))
  (hx:S.ev x=.d (.mp agg (l.map λp=>(kv p.1,enc p.2))):=by exact rfl)(hok:(Nat.ble (d+1) n&&(cD y&&okA yv))=true:=by exact rfl)(hyv:S.ev y=yv:=by exact rfl)(hav:∀v,ok1 (nC agg (enc v))=true:=by exactλ_=>rfl):
  cA P n ⟨some d,.lookup t x y true,ty,pos,af,gd⟩ S K:=by
 simp only[Bool.and_eq_true] at hok;refine dL (us:=[]) k λS' hA ρ=>?_;have e:ρ.av (.tup [nC agg (enc (cE a z l)),.b (cI a l)])=.tup [nC agg (enc (cE a z l)),.b (cI a l)]:=by
  show AV.tup [_,_]=_;rw[aSm ρ (hav _)];rfl
 rw[e];exact aHa (Nat.le_of_ble_eq_true hok.1) hk ht hz hzv (evS hA (by simp[Op.operands]) hx) (cBj hx (by intro u h;cases h) (by intro h;cases h) (by intro f h;cases h)) hok.2.1 (evS hA (by simp[Op.operands]) hyv) (by rw[aAi ρ hok.2.2];exact hy)
end
end Go.Am
end
end
end
section
section
namespace Go.Am
def cGs:Bool->Exit->Prop
 |true,e=>e=.ret\/e=.normal
 |false,e=>e=.ret
def bAn:List Nat->List (Nat×VO)->(List (Nat×VO)->List (Nat×VO)->Prop)->Prop
 |[],objs,K=>K [] objs
 | h::hs,objs,K=>match cDt h with
  |some m=>bAn hs objs λps r=>K ((h,.raw m)::ps) r
  | none=>match ob objs h with
   |some m=>bAn hs (fV h objs) λps r=>K ((h,m)::ps) r
   |none=>False
theorem bCs[Mode]{ρ:Rho}:∀{hs:List Nat} {objs:List (Nat×VO)} {K:List (Nat×VO)->List (Nat×VO)->Prop},bAn hs objs K->∃ps rest nils,K ps rest/\((objs.map λp=>ρ.mo p.1 p.2)++nils).Perm ((ps.map λp=>ρ.mo p.1 p.2)++rest.map λp=>ρ.mo p.1 p.2)/\∀env l,Ent ⟨env,l⟩ ⟨env,l++nils⟩
 |[],objs,K,h=>⟨[],objs,[],h,by simp,λenv l=>by rw[List.append_nil];exact Ent.refl _⟩
 | g ::hs,objs,K,h=>by
  simp only[bAn] at h;split at h
  ·rename_i m hm
   obtain⟨ps,rest,nils,hk,hp,hn⟩:=bCs (ρ:=ρ) (K:=λps r=>K ((g,.raw m)::ps) r) h;refine⟨_,rest,m::nils,hk,List.perm_middle.trans (.cons _ hp),λenv l=>?_⟩;have hm':m=.arr (.slice none 0 0) ((g-1000000000)/1000) ((g-1000000000) % 1000) []:=by
    unfold cDt at hm;cases hb:Nat.ble 1000000000 g with
    |true=>rw[hb] at hm;exact(Option.some.inj hm).symm
    |false=>rw[hb] at hm;cases hm
   have h1:=(pD ((g-1000000000)/1000) ((g-1000000000) % 1000) (env:=env) (objs:=l)).trans (hn env _);rw[hm']
   rwa[List.append_assoc] at h1
  ·split at h
   ·rename_i m hm
    obtain⟨ps,rest,nils,hk,hp,hn⟩:=bCs (ρ:=ρ) (K:=λps r=>K ((g,m)::ps) r) h;obtain⟨i,_,_,h3⟩:=sE (ρ:=ρ) hm;refine⟨_,rest,nils,hk,?_,hn⟩;have:=List.Perm.append_right nils h3;exact this.trans (.cons _ hp)
   ·exact h.elim
def bXo{P:Program}(T:TT P)(S:VS)(rest:List (Nat×VO)):List ResultVar->(AV->Prop)->Prop
 |[x],K=>rdV T S x λv=>K (vA rest v)
 |[x,y],K=>rdV T S x λv=>rdV T S y λu=>(xZ (vA rest v)&&xZ (vA rest u))=true/\K (.tup [vA rest v,vA rest u])
 |[x,y,z],K=>rdV T S x λv=>rdV T S y λu=>rdV T S z λt=>(xZ (vA rest v)&&(xZ (vA rest u)&&xZ (vA rest t)))=true/\K (.tup [vA rest v,vA rest u,vA rest t])
 |[],K=>K (.tup [])
 |_,_=>False
theorem cEg{P:Program}{T:TT P}{S:VS}{rest:List (Nat×VO)}{rs:List ResultVar}{K:AV->Prop}{ρ:Rho}(hr:sW (rest.map λp=>ρ.mo p.1 p.2))(h:bXo T S rest rs K):∃r0 r,ResW P (S.at ρ) rs r0/\BV (rest.map λp=>ρ.mo p.1 p.2) r0 (ρ.av r)/\K r:=by
 unfold bXo at h;split at h
 ·obtain⟨v,h,hv⟩:=aBd (ρ:=ρ) h;exact⟨_,_,.one hv,aKq ρ hr v,h⟩
 ·obtain⟨v,h,hv⟩:=aBd (ρ:=ρ) h;obtain⟨u,⟨hf,h⟩,hu⟩:=aBd (ρ:=ρ) h;simp only[Bool.and_eq_true] at hf;refine⟨_,_,.two hv hu,?_,h⟩;show BV _ _ (.tup [ρ.a1 _,ρ.a1 _]);rw[aBl ρ hf.1,aBl ρ hf.2];exact yH (.cons (aKq ρ hr v) (.cons (aKq ρ hr u) .nil))
 ·obtain⟨v,h,hv⟩:=aBd (ρ:=ρ) h;obtain⟨u,h,hu⟩:=aBd (ρ:=ρ) h;obtain⟨t,⟨hf,h⟩,ht⟩:=aBd (ρ:=ρ) h;simp only[Bool.and_eq_true] at hf;refine⟨_,_,.three hv hu ht,?_,h⟩;show BV _ _ (.tup [ρ.a1 _,ρ.a1 _,ρ.a1 _]);rw[aBl ρ hf.1,aBl ρ hf.2.1,aBl ρ hf.2.2];exact yH (.cons (aKq ρ hr v) (.cons (aKq ρ hr u) (.cons (aKq ρ hr t) .nil)))
 ·exact⟨_,.tup [],.none,.same _,h⟩
 ·exact h.elim
theorem fng[Mode]{P:Program}(T:TT P)(X:XP)(nr:Bool)(bt:List (Nat×Nat×Value)){f:FuncId}{fn:Func}{c:Code}(args:List AV)(objs:List (Nat×VO)){args':List AV}{objs':List MO}{N:Nat}{Q:AV->List MO->Prop}(rs:List ResultVar)
  (hf:P.funcs[f]?=some fn)(hr:fn.results=rs.toArray)(hn:fn.ntmps=N)
  (h:aGz T N (aCr bt) X c ⟨aGv 0 args,objs⟩ λe S=>cGs nr e/\∃hs,bAn hs S.objs λps rest=>bXo T S rest rs λr=>∀b o s,Q ((Rho.mk (aCr bt) b o s).av r) (ps.map λp=>(Rho.mk (aCr bt) b o s).mo p.1 p.2))
  (hb:fn.body=some c:=by exact rfl)(ha:Nat.ble args.length N=true:=by exact rfl)
  (e1:args.map (aLj (aCr bt)).av=args':=by kernel_rfl)(e2:(objs.map λp=>(aLj (aCr bt)).mo p.1 p.2)=objs':=by kernel_rfl):bC P f args' objs' Q:=by
 subst e1;subst e2;refine xD hf hb hr hn (by rw[List.length_map];exact Nat.le_of_ble_eq_true ha) ?_;have hent:Ent ⟨entry (args.map (aLj (aCr bt)).av),objs.map λp=>(aLj (aCr bt)).mo p.1 p.2⟩ ((VS.mk (aGv 0 args) objs).at (aLj (aCr bt))):=by
  refine lA ?_;have e:entry (args.map (aLj (aCr bt)).av)=λk=>(aLj (aCr bt)).av (lk (aGv 0 args) k):=by
   funext k
   have h2:=bBt (l:=args) (k:=0) (j:=k);rw[Nat.zero_add] at h2;rw[h2];simp only[entry,List.getD,List.getElem?_map];cases args[k]?<;>rfl
  rw[e];rfl
 refine bNy (kA hent (wY h _ rfl)) ?_;rintro e s ⟨S',ρ',hβ,⟨he,hs,hob⟩,hE⟩;obtain⟨ps,rest,nils,hres,hp,hn⟩:=bCs (ρ:=ρ') hob;refine⟨_,hE.trans (hn _ _),λhro=>?_⟩;have hro':sW (rest.map λp=>ρ'.mo p.1 p.2):=λv e k rows hm=>hro v e k rows (hp.mem_iff.2 (List.mem_append.2 (.inr hm)));obtain⟨r0,r,h1,h2,hq⟩:=cEg hro' hres;have key:∃r0 objs' gone r,ResW P ⟨(S'.at ρ').env,(S'.at ρ').objs++nils⟩ rs r0/\((S'.at ρ').objs++nils).Perm (objs'++gone)/\BV gone r0 r/\Q r objs':=by
  refine⟨r0,_,_,_,h1.app,hp,h2,?_⟩;obtain⟨β,b,o,sv⟩:=ρ';have:β=aCr bt:=hβ;subst this;exact hq b o sv
 cases nr with
 | true=>
  rcases he with rfl|rfl
  ·exact⟨rfl,key⟩
  ·exact key
 |false=>cases he;exact⟨rfl,key⟩
inductive RV where
 |s (v:Value)
 |b (b o:Nat)
def Rho.g1(ρ:Rho)(h:Nat):RV->Rho
 | .s v=>ρ.setS h v
 | .b b o=>ρ.setB h b o
def Rho.gs(ρ:Rho):List Nat->List RV->Rho
 |h::hs,v::vs=>(ρ.g1 h v).gs hs vs
 |_,_=>ρ
theorem bTp{ρ:Rho}{h:Nat}:∀v,Off h ρ (ρ.g1 h v)
 | .s v=>aJb v
 | .b b o=>aWm b o
theorem cDp:∀{hs:List Nat} {vs:List RV} {ρ:Rho},(ρ.gs hs vs).β=ρ.β
 |[],_,_=>by simp[Rho.gs]
 |_::_,[],_=>by simp[Rho.gs]
 |h::hs,v::vs,ρ=>by simp only[Rho.gs];rw[cDp];exact(bTp v).β
theorem bZg{S:VS}:∀{hs:List Nat} {vs:List RV} {ρ:Rho},(∀h∈hs,lW h S=false)->S.at (ρ.gs hs vs)=S.at ρ
 |[],_,_,_=>by simp[Rho.gs]
 |_::_,[],_,_=>by simp[Rho.gs]
 | h::hs,v::vs,ρ,ho=>by
  simp only[Rho.gs];rw[bZg λk hk=>ho k (List.mem_cons_of_mem _ hk)];exact(bTp v).at (ho h (by simp))
def aHe:List Nat->List (Option VO)->List (Nat×Option VO)
 |h::hs,m::ms=>(h,m)::aHe hs ms
 |_,_=>[]
def aSw:List Nat->List (Option VO)->List (Nat×VO)
 |h::hs,some m::ms=>(h,m)::aSw hs ms
 |_::hs,none::ms=>aSw hs ms
 |_,_=>[]
theorem bMj{h k:Nat}{m:VO}(hk:Nat.beq h k=false):∀{l:List (Nat×VO)} {x:VO},ob l h=some x->fV k (fD h m l)=fD h m (fV k l)
 |[],_,hx=>by cases hx
 | p::l,x,hx=>by
  simp only[ob] at hx;cases hb:Nat.beq p.1 h with
  | true=>
   have:=Nat.eq_of_beq_eq_true hb;simp only[fD,hb,cond_true,fV];rw[this,hk]
   simp[fD]
  | false=>
   rw[hb] at hx;simp only[fD,hb,cond_false,fV];cases hc:Nat.beq p.1 k with
   |true=>simp only[cond_true]
   |false=>simp only[cond_false,fD,hb,bMj hk (by simpa using hx)]
theorem bMi{h k:Nat}(hk:Nat.beq h k=false):∀{l:List (Nat×VO)},fV k (fV h l)=fV h (fV k l)
 |[]=>rfl
 | p::l=>by
  cases hb:Nat.beq p.1 h with
  | true=>
   have:=Nat.eq_of_beq_eq_true hb;simp only[fV,hb,cond_true];rw[this,hk]
   simp[fV]
  | false=>
   cases hc:Nat.beq p.1 k with
   |true=>simp only[fV,hb,hc,cond_true,cond_false]
   |false=>simp only[fV,hb,hc,cond_false,bMi hk]
theorem bMa{h k:Nat}(hk:Nat.beq h k=false):Nat.beq k h=false:=by
 cases hb:Nat.beq k h with
 |false=>rfl
 |true=>have:=Nat.eq_of_beq_eq_true hb;subst this;rw[Nat.beq_refl] at hk;cases hk
theorem bSc{h:Nat}{m:VO}:∀{ks:List Nat} {l:List (Nat×VO)} {x:VO},tR h ks=true->ob l h=some x->tP ks (fD h m l)=fD h m (tP ks l)
 |[],_,_,_,_=>rfl
 | k::ks,l,x,hd,hx=>by
  simp only[tR,List.all_cons,Bool.and_eq_true,Bool.not_eq_true'] at hd;simp only[tP];rw[bMj hd.1 hx,bSc (by simp only[tR];exact hd.2) ((aSk (bMa hd.1)).trans hx)]
theorem bSb{h:Nat}:∀{ks:List Nat} {l:List (Nat×VO)},tR h ks=true->tP ks (fV h l)=fV h (tP ks l)
 |[],_,_=>rfl
 | k::ks,l,hd=>by
  simp only[tR,List.all_cons,Bool.and_eq_true,Bool.not_eq_true'] at hd;simp only[tP];rw[bMi hd.1,bSb (by simp only[tR];exact hd.2)]
theorem bTn{h k:Nat}{m:VO}(hk:Nat.beq h k=false):∀{l:List (Nat×VO)},ob (fD h m l) k=ob l k
 |[]=>by simp[fD,ob,hk]
 | p::l=>by
  simp only[fD];cases hb:Nat.beq p.1 h with
  | true=>
   have:=Nat.eq_of_beq_eq_true hb;simp only[cond_true,ob,hb,hk,cond_false];rw[this,hk];rfl
  | false=>
   simp only[cond_false,ob,bTn hk]
theorem aXa{ρ:Rho}:∀{hs:List Nat} {cs:List (Option VO)} {l:List (Nat×VO)},hs.length=cs.length->aBn hs=true->(∀h∈hs,∃m,ob l h=some m)->
  ((chg (aHe hs cs) l).map λp=>ρ.mo p.1 p.2).Perm (((aSw hs cs).map λp=>ρ.mo p.1 p.2)++(tP hs l).map λp=>ρ.mo p.1 p.2)
 |[],[],l,_,_,_=>by simp[aHe,chg,aSw,tP]
 |[],_::_,_,h,_,_=>by simp at h
 |_::_,[],_,h,_,_=>by simp at h
 | h ::hs,c::cs,l,hl,hn,ho=>by
  simp only[aBn,Bool.and_eq_true] at hn;obtain⟨x,hx⟩:=ho h (by simp);have hne:∀k∈hs,Nat.beq h k=false:=λk hk=>by
   have:=hn.1;simp only[tR,List.all_eq_true,Bool.not_eq_true'] at this;exact this k hk
  cases c with
  | none=>
   simp only[aHe,chg,aSw,tP];exact aXa (by simpa using hl) hn.2 λk hk=>by
    obtain⟨m,hm⟩:=ho k (List.mem_cons_of_mem _ hk);exact⟨m,(aSk (hne k hk)).trans hm⟩
  | some m=>
   simp only[aHe,chg,aSw,tP];refine(aXa (l:=fD h m l) (by simpa using hl) hn.2 λk hk=>?_).trans ?_
   ·obtain⟨q,hq⟩:=ho k (List.mem_cons_of_mem _ hk);exact⟨q,(bTn (hne k hk)).trans hq⟩
   ·rw[bSc hn.1 hx,bSb hn.1];have:=bXk (ρ:=ρ) (m':=m) (show ob (tP hs l) h=some x from(bMz hn.1).trans hx);refine(List.Perm.append_left _ this).trans ?_;simp only[List.map_cons,List.cons_append];exact List.perm_middle
theorem aVp{h:Nat}:∀{hs:List Nat} {cs:List (Option VO)} {l:List (Nat×VO)},l.any (λq=>Nat.beq q.1 h)=false->tR h hs=true->(chg (aHe hs cs) l).any (λq=>Nat.beq q.1 h)=false
 |[],_,_,hl,_=>by simpa[aHe,chg] using hl
 |_::_,[],_,hl,_=>by simpa[aHe,chg] using hl
 | k ::hs,c::cs,l,hl,hd=>by
  simp only[tR,List.all_cons,Bool.and_eq_true,Bool.not_eq_true'] at hd;have hd2:tR h hs=true:=by simp only[tR];exact hd.2
  have hkh:=bMa hd.1;cases c with
  | none=>
   simp only[aHe,chg];refine aVp ?_ hd2
   clear hd2
   induction l with
   |nil=>rfl
   | cons p l ih=>
    simp only[List.any_cons,Bool.or_eq_false_iff] at hl;simp only[fV];cases Nat.beq p.1 k with
    |true=>exact hl.2
    |false=>simp only[cond_false,List.any_cons,Bool.or_eq_false_iff];exact⟨hl.1,ih hl.2⟩
  | some m=>
   simp only[aHe,chg];refine aVp ?_ hd2
   clear hd2
   induction l with
   |nil=>simp[fD,hkh]
   | cons p l ih=>
    simp only[List.any_cons,Bool.or_eq_false_iff] at hl;simp only[fD];cases hb:Nat.beq p.1 k with
    |true=>simp only[cond_true,List.any_cons,Bool.or_eq_false_iff];exact⟨hl.1,hl.2⟩
    |false=>simp only[cond_false,List.any_cons,Bool.or_eq_false_iff];exact⟨hl.1,ih hl.2⟩
theorem bRo[Mode]{P:Program}{f:FuncId}{args args':List AV}{objs:List MO}{Q:AV->List MO->Prop}(hb:BVs [] args args')(h:bC P f args' objs Q):bC P f args objs Q:=
 λA w vs h1 h2 h3=>h A w vs h1 h2 (hb.sound (λm hm=>by simp at hm) (λ_ _ h=>h) (λm hm=>by simp at hm) h3)
section
variable{P:Program}{n d:Nat}{S:VS}{ty:TypeId}{pos:String}{af:Array Edge}{gd:Option (Nat×Bool)}{K:Eff->Prop}{c:Callee}{l:List Operand}{ts:Array TypeId}{f:FuncId}{ars:List AV}
def chL(ins:List (Nat×VO))(cs:List (Option VO))(news:List (Nat×VO)):List (Nat×Option VO):=aHe (ins.map (·.1)) cs++news.map λp=>(p.1,some p.2)
theorem cEp[Mode]{α:Type}{Rx:α->Prop}{S':VS}{ρ:Rho}{ins:List (Nat×VO)}{nw us:List Nat}(r:α->AV)(cs:α->List (Option VO))(news:α->List (Nat×VO)){a0:List AV}{Qc:AV->List MO->Prop}
  (hd:d<n)(h1:mD P (S'.at ρ) c l f a0)(hok:iN l=true)(hcall:∀passed rest,(S'.at ρ).objs.Perm (passed++rest)->passed=ins.map (λp=>ρ.mo p.1 p.2)->rest=(tP (ins.map (·.1)) S'.objs).map (λp=>ρ.mo p.1 p.2)->
   ∀(Q:St->Prop),(∀r o,Qc r o->Q ⟨upd (S'.at ρ).env d r,o++rest⟩)->Step P n ⟨some d,.call ⟨c,l.toArray,ts⟩,ty,pos,af,gd⟩ ⟨(S'.at ρ).env,passed++rest⟩ Q)
  (hos:∀p∈ins,ob S'.objs p.1=some p.2)(hnd:(aBn (ins.map (·.1))&&(aBn nw&&nw.all λh=>tR h (ins.map (·.1))))=true)(hfr:∀h∈nw,lW h S'=false)(hnw:∀x,(news x).map (·.1)=nw)(hcs:∀x,(cs x).length=ins.length)
  (hpost:∀r' o',Qc r' o'->∃x,Rx x/\∃ws:List RV,r'=(ρ.gs nw ws).av (r x)/\o'=((aSw (ins.map (·.1)) (cs x)++news x).map λp=>(ρ.gs nw ws).mo p.1 p.2)):
  Step P n ⟨some d,.call ⟨c,l.toArray,ts⟩,ty,pos,af,gd⟩ (S'.at ρ) λst=>∃x,Rx x/\∃ρ':Rho,ρ'.β=ρ.β/\Ent st ((S'.app (some d) ⟨r x,chL ins (cs x) (news x),us,nw⟩).at ρ'):=by
 simp only[Bool.and_eq_true] at hnd;obtain⟨n2,n3,n4⟩:=hnd;have hp1:=bHa (ρ:=ρ) n2 hos;intro A M w0 a w hR K' Q hK;have hR1:=aEk (env:=(S'.at ρ).env) hp1 A M w0 n a w hR;refine hcall _ _ hp1 rfl rfl _ (λr' o' hq=>?_) A M w0 a w hR1 K' Q λs a' w' hs hR'=>hK s a' w' hs hR';obtain⟨x,hx,ws,rfl,rfl⟩:=hpost r' o' hq;refine⟨x,hx,ρ.gs nw ws,cDp,?_⟩;have hat:=bZg (ρ:=ρ) (vs:=ws) hfr
 generalize ρ.gs nw ws=ρ1 at hat
 simp only[VS.app,chL,bBd];have hk1:∀p∈news x,(chg (aHe (ins.map (·.1)) (cs x)) S'.objs).any (λq=>Nat.beq q.1 p.1)=false:=λp hp=>by
  have hm:p.1∈nw:=hnw x▸List.mem_map.2 ⟨p,hp,rfl⟩;refine aVp ?_ (List.all_eq_true.1 n4 _ hm);have h0:=aCh (hfr p.1 hm);rw[List.any_eq_false] at h0|-;intro q hq hb;exact h0 q hq (by simp only[hb,Bool.true_or])
 rw[bGu (by rw[hnw x];exact n3) hk1];have henv:(λk=>ρ1.av (lk ((d,r x)::S'.env) k))=upd (S'.at ρ).env d (ρ1.av (r x)):=by
  have e:=qP (ρ:=ρ1) S' d (r x);rw[hat] at e;exact(congrArg St.env e).symm
 have hall:∀p∈S'.objs,ρ1.mo p.1 p.2=ρ.mo p.1 p.2:=λp hp=>by
  have e:=congrArg St.objs hat;simp only[VS.at] at e;exact(List.map_inj_left.1 e) p hp
 have hsub:∀(h:Nat) (l:List (Nat×VO)),∀x∈fV h l,x∈l:=by
  intro h l
  induction l with
  |nil=>intro x hx;exact hx
  | cons q l ih=>
   intro x hx;simp only[fV] at hx;cases hb':Nat.beq q.1 h with
   |true=>rw[hb'] at hx;exact List.mem_cons_of_mem _ hx
   | false=>
    rw[hb'] at hx
    rcases List.mem_cons.1 hx with rfl|hx
    ·exact List.mem_cons_self
    ·exact List.mem_cons_of_mem _ (ih x hx)
 have hsubL:∀(hs:List Nat) (l:List (Nat×VO)),∀x∈tP hs l,x∈l:=by
  intro hs
  induction hs with
  |nil=>intro l x hx;exact hx
  |cons h hs ih=>intro l x hx;exact hsub h l x (ih _ x hx)
 have hrest:((tP (ins.map (·.1)) S'.objs).map λp=>ρ.mo p.1 p.2)=(tP (ins.map (·.1)) S'.objs).map λp=>ρ1.mo p.1 p.2:=
  List.map_congr_left λp hp=>(hall p (hsubL _ _ p hp)).symm
 unfold VS.at;simp only;rw[henv,hrest];refine aEk ?_;have hz:=aXa (ρ:=ρ1) (hs:=ins.map (·.1)) (cs:=cs x) (l:=S'.objs) (by rw[List.length_map,hcs x]) n2 λh hh=>by
  obtain⟨p,hp,rfl⟩:=List.mem_map.1 hh;exact⟨_,hos p hp⟩
 rw[List.map_append,List.map_append];refine List.Perm.trans ?_ (List.Perm.append_right _ hz.symm);rw[List.append_assoc,List.append_assoc];exact List.Perm.append_left _ List.perm_append_comm
def bOf(f:FuncId)(P:Program)[Mode]{α:Type}(Rx:α->Prop)(ins:List (Nat×VO))(nw:List Nat)(r:α->AV)(cs:α->List (Option VO))(news:α->List (Nat×VO))(args':Rho->List AV)(objs':Rho->List MO):Prop:=
 ∀ρ:Rho,∃Qc,bC P f (args' ρ) (objs' ρ) Qc/\∀r' o',Qc r' o'->∃x,Rx x/\∃ws:List RV,r'=(ρ.gs nw ws).av (r x)/\o'=((aSw (ins.map (·.1)) (cs x)++news x).map λp=>(ρ.gs nw ws).mo p.1 p.2)
theorem bAz[Mode]{α:Type}{Rx:α->Prop}{S':VS}{ins:List (Nat×VO)}{nw us:List Nat}{r:α->AV}{cs:α->List (Option VO)}{news:α->List (Nat×VO)}{args':Rho->List AV}{objs':Rho->List MO}(he:∀args w,(callFunc f args).run P w=.ok (.enter f args) w)
  (hf:bOf f P Rx ins nw r cs news args' objs')(hA:Agr (.call ⟨c,l.toArray,ts⟩) S S' (ins.map (·.1)))(hfr:∀h∈nw,lW h S'=false)(hc:qF S l c=some (f,ars))(hin:(ins.map λp=>ob S.objs p.1)=ins.map λp=>some p.2)
  (hok:(Nat.ble (d+1) n&&(iN l&&(aBn (ins.map (·.1))&&(aBn nw&&nw.all λh=>tR h (ins.map (·.1))))))=true)(hnw:∀x,(news x).map (·.1)=nw)(hcs:∀x,(cs x).length=ins.length)
  (ha:∀ρ:Rho,BVs [] (ars.map ρ.av) (args' ρ))(ho:∀ρ:Rho,objs' ρ=ins.map λp=>ρ.mo p.1 p.2)(ρ:Rho):
  Step P n ⟨some d,.call ⟨c,l.toArray,ts⟩,ty,pos,af,gd⟩ (S'.at ρ) λst=>∃x,Rx x/\∃ρ':Rho,ρ'.β=ρ.β/\Ent st ((S'.app (some d) ⟨r x,chL ins (cs x) (news x),us,nw⟩).at ρ'):=by
 simp only[Bool.and_eq_true (Nat.ble (d+1) n),Bool.and_eq_true (iN l)] at hok;obtain⟨a0,h1,h2⟩:=aJt hA hc he ρ;obtain⟨Qc,hcall,hpost⟩:=hf ρ;rw[ho ρ] at hcall;have hcall:=bRo (ha ρ) hcall;refine cEp (Qc:=Qc) r cs news (Nat.le_of_ble_eq_true hok.1) h1 hok.2.1 (λpassed rest hp e1 e2 Q hQ=>?_) (λp hp=>(hA.ob p.1 (List.mem_map.2 ⟨p,hp,rfl⟩)).trans (List.map_inj_left.1 hin p hp)) hok.2.2 hfr hnw hcs hpost;have h1':mD P ⟨(S'.at ρ).env,passed++rest⟩ c l f a0:=bOt h1 rfl;refine dJ (xI (Nat.le_of_ble_eq_true hok.1) rfl h1' h2 hok.2.1 (e1▸hcall)) ?_;rintro s ⟨r',o',hq,rfl⟩;exact hQ r' o' hq
theorem cg[Mode]{α γ:Type}{sh:Option α}{g:α->Option γ}{rr:γ}(ins:List (Nat×VO))(nw:List Nat)(r:α->AV)(cs:α->List (Option VO))(news:α->List (Nat×VO)){args':Rho->List AV}{objs':Rho->List MO}(he:∀args w,(callFunc f args).run P w=.ok (.enter f args) w)
  (hf:∀x,sh=some x->bOf f P (λy=>y=x) ins nw r cs news args' objs')(h:sh.bind g=some rr)(k:∀x,g x=some rr->K ⟨r x,chL ins (cs x) (news x),ins.map (·.1),nw⟩)
  (hc:qF S l c=some (f,ars):=by exact rfl)(hin:(ins.map λp=>ob S.objs p.1)=ins.map (λp=>some p.2):=by exact rfl)
  (hok:(Nat.ble (d+1) n&&(iN l&&(aBn (ins.map (·.1))&&(aBn nw&&nw.all λh=>tR h (ins.map (·.1))))))=true:=by exact rfl)(hnw:∀x,(news x).map (·.1)=nw:=by exactλ_=>rfl)(hcs:∀x,(cs x).length=ins.length:=by exactλ_=>rfl)
  (ha:∀ρ:Rho,BVs [] (ars.map ρ.av) (args' ρ):=by exactλ_=>BVs.refl _ _)(ho:∀ρ:Rho,objs' ρ=ins.map (λp=>ρ.mo p.1 p.2):=by intro _;kernel_rfl):
  cA P n ⟨some d,.call ⟨c,l.toArray,ts⟩,ty,pos,af,gd⟩ S K:=by
 obtain⟨x,hx,h⟩:=bind_some h;refine⟨⟨_,k x h,λS' hA hn ρ=>?_⟩⟩;refine dJ (bAz (us:=ins.map (·.1)) (Rx:=λy=>y=x) he (hf x hx) hA (λh hh=>(hn h hh).1) hc hin hok hnw hcs ha ho ρ) ?_;rintro s ⟨y,rfl,ρ',hβ,hE⟩;exact⟨ρ',hβ,hE⟩
theorem cgn[Mode]{β:qT}{Kv:VS->Prop}{α:Type}{Rx:α->Prop}(ins:List (Nat×VO))(nw:List Nat)(r:α->AV)(cs:α->List (Option VO))(news:α->List (Nat×VO)){args':Rho->List AV}{objs':Rho->List MO}(he:∀args w,(callFunc f args).run P w=.ok (.enter f args) w)
  (hf:bOf f P Rx ins nw r cs news args' objs')(k:∀x,Rx x->aDe S nw (tO (some d) ⟨r x,chL ins (cs x) (news x),ins.map (·.1),nw⟩ S Kv))(hne:∃x,Rx x)
  (hc:qF S l c=some (f,ars):=by exact rfl)(hin:(ins.map λp=>ob S.objs p.1)=ins.map (λp=>some p.2):=by exact rfl)
  (hok:(Nat.ble (d+1) n&&(iN l&&(aBn (ins.map (·.1))&&(aBn nw&&nw.all λh=>tR h (ins.map (·.1))))))=true:=by exact rfl)(hnw:∀x,(news x).map (·.1)=nw:=by exactλ_=>rfl)(hcs:∀x,(cs x).length=ins.length:=by exactλ_=>rfl)
  (ha:∀ρ:Rho,BVs [] (ars.map ρ.av) (args' ρ):=by exactλ_=>BVs.refl _ _)(ho:∀ρ:Rho,objs' ρ=ins.map (λp=>ρ.mo p.1 p.2):=by intro _;kernel_rfl):
  aKv P n β ⟨some d,.call ⟨c,l.toArray,ts⟩,ty,pos,af,gd⟩ S Kv:=by
 intro ρ hρ;obtain⟨x0,hx0⟩:=hne;have hfr:=(aSi (k x0 hx0)).2;refine dJ (bAz (us:=ins.map (·.1)) he hf ⟨λ_ _=>rfl,λ_ _=>rfl⟩ (λh hh=>(hfr h hh).1) hc hin hok hnw hcs ha ho ρ) ?_;rintro s ⟨x,hx,ρ',hβ,hE⟩;exact⟨_,ρ',hβ.trans hρ,bGi (aSi (k x hx)).1,hE⟩
end
end Go.Am
end
section
section
namespace Go.Am
section
variable(ρ:Rho)(lo:List (Nat×VO))
variable{ρ lo}
end
theorem DV.sub{fs fs':List MO}(hs:∀m∈fs,m∈fs'){x y:D}(h:DV fs x y):DV fs' x y:=by
 induction h with
 |same x=>exact .same x
 |nil k=>exact .nil k
 |weak k rows=>exact .weak k rows
 |arrn v e k rows rows' hn _ ih=>exact .arrn v e k rows rows' hn ih
 |arr v e k rows rows' hm hl hk _ ih=>exact .arr v e k rows rows' (hs _ hm) hl hk ih
 |map r bs ck agg es h1 hm=>exact .map r bs ck agg es h1 (hs _ hm)
 |mapx r agg es hm=>exact .mapx r agg es (hs _ hm)
 |box b o ds es hm hl _ ih=>exact .box b o ds es (hs _ hm) hl ih
 |ptc xs ys hl _ ih=>exact .ptc xs ys hl ih
 |fc m f xs ys hl _ ih=>exact .fc m f xs ys hl ih
 |nest v0 e0 e k vs rss ho hf=>exact .nest v0 e0 e k vs rss (hs _ ho) (hs _ hf)
theorem DVs.sub{fs fs':List MO}(hs:∀m∈fs,m∈fs'):∀{xs ys:List D},DVs fs xs ys->DVs fs' xs ys
 |[],[],_=>trivial
 |_::_,_::_,h=>⟨h.1.sub hs,DVs.sub hs h.2⟩
 |[],_::_,h=>h.elim
 |_::_,[],h=>h.elim
theorem BV.sub{fs fs':List MO}(hs:∀m∈fs,m∈fs'){x y:AV}(h:BV fs x y):BV fs' x y:=by
 induction h with
 |same x=>exact .same x
 |any x=>exact .any x
 |d h=>exact .d (h.sub hs)
 |fl nn k rows=>exact .fl nn k rows
 |fln k rows=>exact .fln k rows
 |agg h=>exact .agg (h.sub hs)
 |ptc xs=>exact .ptc xs
 |cpt xs=>exact .cpt xs
 |ad h=>exact .ad h
 |lbp b o=>exact .lbp b o
 |bp b o j ds es hm hj h=>exact .bp b o j ds es (hs _ hm) hj (h.sub hs)
 |fn f caps caps' hl _ ih=>exact .fn f caps caps' hl ih
 |tup caps caps' hl _ ih=>exact .tup caps caps' hl ih
theorem BVs.sub{fs fs':List MO}(hs:∀m∈fs,m∈fs'):∀{xs ys:List AV},BVs fs xs ys->BVs fs' xs ys
 |[],[],_=>.nil
 |_::_,_::_,.cons h hl=>.cons (h.sub hs) (BVs.sub hs hl)
section
variable{P:Program}{n d:Nat}{S:VS}{ty:TypeId}{pos:String}{af:Array Edge}{gd:Option (Nat×Bool)}{K:Eff->Prop}{c:Callee}{l:List Operand}{ts:Array TypeId}{f:FuncId}{ars:List AV}
section
variable{α ε γ:Type}{rr:γ}{args':List AV}
theorem cdo[Mode]{sh:Option (Option α×ε)}{g:Option α×ε->Option γ}{enc:Option α×ε->AV}(he:∀args w,(callFunc f args).run P w=.ok (.enter f args) w)(hf:∀x,sh=some x->Fn P f args' (enc x))(h:sh.bind g=some rr)
  (kn:∀e,g (none,e)=some rr->K (.p (enc (none,e))))(ks:∀y e,g (some y,e)=some rr->K (.p (enc (some y,e))))
  (hc:qF S l c=some (f,ars):=by exact rfl)(hv:nlL ars args'=args':=by exact rfl)(hok:(Nat.ble (d+1) n&&(iN l&&ars.all okA))=true:=by exact rfl)(hn:∀e,okR (enc (none,e))=true:=by exactλ_=>rfl)(hs:∀y e,okR (enc (some y,e))=true:=by exactλ_ _=>rfl):
  cA P n ⟨some d,.call ⟨c,l.toArray,ts⟩,ty,pos,af,gd⟩ S K:=by
 obtain⟨⟨_|y,e⟩,hx,h⟩:=bind_some h
 ·simp only[Bool.and_eq_true (Nat.ble (d+1) n)] at hok;exact ocd he (hf _ hx) (Nat.le_of_ble_eq_true hok.1) hc hv hok.2 (hn e) (kn e h)
 ·simp only[Bool.and_eq_true (Nat.ble (d+1) n)] at hok;exact ocd he (hf _ hx) (Nat.le_of_ble_eq_true hok.1) hc hv hok.2 (hs y e) (ks y e h)
end
theorem cGt{α γ:Type}{y:α}{F:α->Option γ}{r:γ}(h:Option.bind (some y) F=some r):F y=some r:=h
end
end Go.Am
end
section
namespace Go.Am
theorem bPm{α:Type}{o:Option α}{f:α->Prop}(h:nb o f):∃x,o.bind some=some x/\f x:=by
 obtain⟨x,rfl,h⟩:=h;exact⟨x,rfl,h⟩
theorem cFq{α:Type}{y:α}{f:α->Prop}(h:nb (some y) f):f y:=by
 obtain⟨x,hx,h⟩:=h;cases hx;exact h
theorem cFp{α:Type}{f:α->Prop}{p:Prop}(h:nb none f):p:=by
 obtain⟨x,hx,h⟩:=h;cases hx
theorem aWz[Mode]{P:Program}{T:TT P}{n:Nat}{β:qT}{X:XP}{c:Code}{S:VS}{Q:Exit->VS->Prop}{A:Type}{k0:Nat}(ks hs:List Nat)(σ:A->List (Nat×AV)×List (Nat×VO))(F:Nat->A->Prop)(a0:A)(h0:F k0 a0)(he:LeV β S (S.pt ks (σ a0).1 hs (σ a0).2))
  (body:∀k a,F (k+1) a->S.ptK ks (σ a).1 hs (σ a).2 λS1=>aGz T n β X c S1 λe S'=>match e with| .normal=>∃a',F k a'/\LeV β S' (S.pt ks (σ a').1 hs (σ a').2)|e=>Q e S')(hz:∀a,¬F 0 a:=by exactλ_ h=>h):OLp T n β X c S Q:=by
 classical
 have hF:∀k a,(if F k a then some () else none)=some ()↔F k a:=λk s=>by split<;>simp_all
 refine⟨aUg he λρ hρ=>?_⟩;refine bCt (λs:A×{ρ:Rho // ρ.β=β}=>(S.pt ks (σ s.1).1 hs (σ s.1).2).at s.2.1) (λk s=>if F k s.1 then some () else none) () (λs=>if_neg (hz s.1)) ?_ k0 (a0,⟨ρ,hρ⟩) ((hF _ _).2 h0);rintro k ⟨a,ρ1,h1⟩ hk;refine rL (wY (bZt (body k a ((hF _ _).1 hk))) ρ1 h1) ?_;rintro e st ⟨S',ρ',hβ,hq,hent⟩;cases e with
 | normal=>
  obtain⟨a',ha,hl⟩:=hq;obtain⟨ρ2,h2,he2⟩:=hl ρ' hβ;exact⟨(a',⟨ρ2,h2⟩),(hF _ _).2 ha,hent.trans he2⟩
 |_=>exact⟨S',ρ',hβ,hq,hent⟩
section
variable{P:Program}{n d:Nat}{S:VS}{ty:TypeId}{pos:String}{af:Array Edge}{gd:Option (Nat×Bool)}{c:Callee}{l:List Operand}{ts:Array TypeId}{f:FuncId}{ars:List AV}
theorem cgq[Mode]{β:qT}{Kv:VS->Prop}{α:Type}{Rx:α->Prop}{enc:α->AV}{args':List AV}(he:∀args w,(callFunc f args).run P w=.ok (.enter f args) w)
  (hf:bC P f args' [] (λr' o'=>∃x,Rx x/\r'=enc x/\o'=[]))(k:∀x,Rx x->Kv ⟨(d,enc x)::S.env,S.objs⟩)
  (hl:∀(ρ:Rho) x,ρ.av (enc x)=enc x:=by exactλ_ _=>rfl)(hc:qF S l c=some (f,ars):=by exact rfl)(hok:(Nat.ble (d+1) n&&iN l)=true:=by exact rfl)
  (ha:∀ρ:Rho,BVs [] (ars.map ρ.av) args':=by exactλ_=>BVs.refl _ _):
  aKv P n β ⟨some d,.call ⟨c,l.toArray,ts⟩,ty,pos,af,gd⟩ S Kv:=by
 intro ρ hρ;simp only[Bool.and_eq_true] at hok;refine dJ (bAz (S:=S) (S':=S) (us:=[]) (ins:=[]) (nw:=[]) (Rx:=Rx) (r:=enc) (cs:=λ_=>[]) (news:=λ_=>[]) (args':=λ_=>args') (objs':=λ_=>[]) he (λρ=>⟨_,hf,?_⟩) ⟨λ_ _=>rfl,λ_ _=>rfl⟩ (λh hh=>by cases hh) hc rfl (by simp only[Bool.and_eq_true];exact⟨hok.1,hok.2,rfl,rfl,rfl⟩) (λ_=>rfl) (λ_=>rfl) ha (λ_=>rfl) ρ) ?_
 ·rintro r' o' ⟨x,hx,rfl,rfl⟩;exact⟨x,hx,[],(hl _ x).symm,rfl⟩
 ·rintro s ⟨x,hx,ρ',hβ,hE⟩;exact⟨_,ρ',hβ.trans hρ,k x hx,hE⟩
theorem cDu[Mode]{K:Eff->Prop}{t u e:TypeId}{x:Operand}{a:Str}{γ:Type}{r:γ}{g:List Int->Option γ}(ht:P.underlying t=some .string)(hu:P.underlying u=some (.slice e))(he:P.underlying e=some (.int .u8))(h:(bOs a).bind g=some r)
  (k:∀l,g l=some r->K (.p (.d (.sl 1 (l.map aGc)))))(hx:S.ev x=.d (.lit (sv a)):=by exact rfl)(hok:(Nat.ble (d+1) n&&cD x)=true:=by exact rfl):
  cA P n ⟨some d,.convert t u x,ty,pos,af,gd⟩ S K:=by
 obtain⟨l,hl,h⟩:=bind_some h;simp only[Bool.and_eq_true] at hok;refine⟨⟨_,k l h,bQu λS' hA ρ=>?_⟩⟩;have e1:ρ.av (.d (.sl 1 (l.map aGc)))=.d (.sl 1 (l.map aGc)):=rfl;rw[e1];exact cBv (Nat.le_of_ble_eq_true hok.1) ((evS (ρ:=ρ) hA (by simp[Op.operands]) hx).trans rfl) ht hu he hl
end
end Go.Am
end
end
end
