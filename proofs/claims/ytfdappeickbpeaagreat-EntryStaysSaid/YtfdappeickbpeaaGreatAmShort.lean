/- Rules for printed proofs, in few words. -/
import Derived.Test.YtfdappeickbpeaaGreatAmFull
import Derived.Test.YtfdappeickbpeaaGreatAmDraw2
import Derived.Test.YtfdappeickbpeaaGreatAmNd
import Derived.Test.YtfdappeickbpeaaGreatAmPlain
import Derived.KernelRfl
namespace Go.Am

section
variable {P : Program} {n d : Nat} {st st' : St} {Q : Exit → St → Prop} {ops : Array Oper} {rest : List Oper} {op : Op} {x y : Operand} {ty : TypeId} {pos : String} {af : Array Edge} {gd : Option (Nat × Bool)} {dst : Option Nat}

theorem bns {α β : Type} {x : Option α} {f : α → Option β} {r : β} (h : x.bind f = some r) : ∃ a, x = some a ∧ f a = some r := Option.bind_eq_some_iff.1 h
theorem sIn {α : Type} {a b : α} (h : some a = some b) : a = b := Option.some.inj h
theorem bb {a b : Bool} (h : (a && b) = true) : a = true ∧ b = true := by simpa using h
theorem to (h : bC P n ⟨dst, op, ty, pos, af, none⟩ st st') (hr : TrL P n ops rest st' Q) : TrL P n ops (⟨dst, op, ty, pos, af, none⟩ :: rest) st Q := tr1 rfl h hr
theorem tm (v : AV) (hr : TrL P n ops rest (st.set d v) Q) (hx : st.eval x = v := by exact rfl) (hd : (Nat.blt d n && dQ x) = true := by exact rfl) : TrL P n ops (⟨some d, .move x, ty, pos, af, none⟩ :: rest) st Q :=
  tr1 rfl (jG (aI (bb hd).1) hx (bb hd).2) hr
theorem ta (v : AV) (hr : TrL P n ops rest (st.set d v) Q) (hx : st.eval x = v := by exact rfl) (hd : (Nat.blt d n && dQ x) = true := by exact rfl) : TrL P n ops (⟨some d, .assign x, ty, pos, af, none⟩ :: rest) st Q :=
  tr1 rfl (aIu (aI (bb hd).1) hx (bb hd).2) hr
theorem tk {j s : Nat} {b c : Bool} (hc : c = b) (h : bC P n ⟨dst, op, ty, pos, af, some (j, b)⟩ st st') (hr : TrL P n ops rest st' Q) (hj : (ops[j]?).bind (·.dst) = some s := by exact rfl) (hb : st.env s = .d (.lit (.bool c)) := by exact rfl) (hs : Nat.blt s n = true := by exact rfl) :
    TrL P n ops (⟨dst, op, ty, pos, af, some (j, b)⟩ :: rest) st Q := yH rfl hj (aI hs) hb hc h hr
theorem tp {j s : Nat} {b c : Bool} (hc : c = !b) (hr : TrL P n ops rest (st.set d (.tup [])) Q) (hj : (ops[j]?).bind (·.dst) = some s := by exact rfl) (hb : st.env s = .d (.lit (.bool c)) := by exact rfl) (hs : (Nat.blt d n && Nat.blt s n) = true := by exact rfl) :
    TrL P n ops (⟨some d, op, ty, pos, af, some (j, b)⟩ :: rest) st Q := aKp rfl rfl (aI (bb hs).1) hj (aI (bb hs).2) hb hc hr
theorem tq {j s : Nat} {b : Bool} (hr : TrL P n ops rest (st.set d (.tup [])) Q) (hj : (ops[j]?).bind (·.dst) = some s := by exact rfl) (hb : st.env s = .tup [] := by exact rfl) (hs : (Nat.blt d n && Nat.blt s n) = true := by exact rfl) :
    TrL P n ops (⟨some d, op, ty, pos, af, some (j, b)⟩ :: rest) st Q := aJf rfl rfl (aI (bb hs).1) hj (aI (bb hs).2) hb hr

theorem sm (v : AV) (hx : st.eval x = v := by exact rfl) (hd : (Nat.blt d n && dQ x) = true := by exact rfl) : bC P n ⟨some d, .move x, ty, pos, af, gd⟩ st (st.set d v) := jG (aI (bb hd).1) hx (bb hd).2
theorem sf {t f off b o j : Nat} (hx : st.eval x = .bp b o j) (hf : cD P t f off) (hd : Nat.blt d n = true := by exact rfl) : bC P n ⟨some d, .fieldAddr t x f, ty, pos, af, gd⟩ st (st.set d (.bp b o (j + off))) := cK (aI hd) hx hf
theorem sl (i : Nat) {t : TypeId} {b o j : Nat} {ds : List D} {d0 : D} (hx : st.eval x = .bp b o j) (ho : st.objs[i]? = some (.box b o ds)) (hj : ds[j]? = some d0) (ht : jX P t) (hd : Nat.blt d n = true := by exact rfl) : bC P n ⟨some d, .load t x, ty, pos, af, gd⟩ st (st.set d (.d d0)) := dA (aI hd) hx ho hj ht
theorem sla (i : Nat) (es : List D) {t : TypeId} {b o j m : Nat} {ds : List D} (hx : st.eval x = .bp b o j) (ho : st.objs[i]? = some (.box b o ds)) (ht : lS P t m) (he : (ds.drop j).take m = es := by exact rfl) (hl : es.length = m := by exact rfl) (hd : Nat.blt d n = true := by exact rfl) : bC P n ⟨some d, .load t x, ty, pos, af, gd⟩ st (st.set d (.agg es)) := pQ (aI hd) hx ho ht he hl
theorem sar {o : BinOp} {k : IntKind} {p q r : Int} {t u : TypeId} (hx : st.eval x = .d (.lit (.int k p))) (hy : st.eval y = .d (.lit (.int k q))) (hr : aBz o p q = some r) (hd : Nat.blt d n = true := by exact rfl) : bC P n ⟨some d, .binOp o t x y u, ty, pos, af, gd⟩ st (st.set d (.d (.lit (.int k (k.wrap r))))) := xA (aI hd) hx hy hr
theorem scm {o : BinOp} {k : IntKind} {p q : Int} {r : Bool} {t u : TypeId} (hx : st.eval x = .d (.lit (.int k p))) (hy : st.eval y = .d (.lit (.int k q))) (hr : cmp o p q = some r) (hd : Nat.blt d n = true := by exact rfl) : bC P n ⟨some d, .binOp o t x y u, ty, pos, af, gd⟩ st (st.set d (.b r)) := aCa (aI hd) hx hy hr
theorem spt (v : AV) {c : Operand} {b : Bool} (hb : b = true) (hc : st.eval c = .d (.lit (.bool b)) := by exact rfl) (hx : st.eval x = v := by exact rfl) (hd : (Nat.blt d n && dQ x) = true := by exact rfl) : bC P n ⟨some d, .pick c x y, ty, pos, af, gd⟩ st (st.set d v) := aDw (aI (bb hd).1) hc hb hx (bb hd).2
theorem spf (v : AV) {c : Operand} {b : Bool} (hb : b = false) (hc : st.eval c = .d (.lit (.bool b)) := by exact rfl) (hx : st.eval y = v := by exact rfl) (hd : (Nat.blt d n && dQ y) = true := by exact rfl) : bC P n ⟨some d, .pick c x y, ty, pos, af, gd⟩ st (st.set d v) := aDv (aI (bb hd).1) hc hb hx (bb hd).2
theorem sst (i : Nat) {t m b o0 j : Nat} {ds es : List D} {v : AV} (hx : st.eval x = .bp b o0 j) (ho : st.objs[i]? = some (.box b o0 ds)) (ht : ∀ w, (sizeOf t).run P w = .ok m w) (ds' : List D) (hy : st.eval y = v := by exact rfl) (hv : v.cells = some es := by exact rfl) (hm : es.length = m := by exact rfl) (hk : (dQ y && (Nat.blt 0 m && Nat.ble (j + es.length) ds.length)) = true := by exact rfl) (hds : lH ds j es = ds' := by exact rfl) :
    bC P n ⟨none, .store t x y, ty, pos, af, gd⟩ st (st.put1 i (.box b o0 ds')) := jB hx ho hy (bb hk).1 hv ht hm (aI (bb (bb hk).2).1) (Nat.le_of_ble_eq_true (bb (bb hk).2).2) hds
theorem sn {b : Bool} {t : TypeId} (hx : st.eval x = .d (.lit (.bool b))) (hd : Nat.blt d n = true := by exact rfl) : bC P n ⟨some d, .unOp .not t x, ty, pos, af, gd⟩ st (st.set d (.b (!b))) := aJk (aI hd) hx
theorem six {t e k : Nat} {rows : List (List D)} {kd : IntKind} {p : Int} {ds : List D} (hx : st.eval x = .d (.sl k rows)) (hy : st.eval y = .d (.lit (.int kd p))) (ht : fB P t e k) (hp : idx rows p = some ds) (hd : Nat.blt d n = true := by exact rfl) : bC P n ⟨some d, .indexAddr t x y, ty, pos, af, gd⟩ st (st.set d (.cp ds)) := zM (aI hd) hx hy ht hp
theorem slc {t : TypeId} {d0 : D} {ds : List D} (hx : st.eval x = .cp (d0 :: ds)) (ht : jX P t) (hd : Nat.blt d n = true := by exact rfl) : bC P n ⟨some d, .load t x, ty, pos, af, gd⟩ st (st.set d (.d d0)) := gK (aI hd) hx ht
theorem aDx (es : List D) {t : TypeId} {m : Nat} {ds : List D} (hx : st.eval x = .cp ds) (ht : lS P t m) (he : ds.take m = es := by exact rfl) (hl : es.length = m := by exact rfl) (hd : Nat.blt d n = true := by exact rfl) : bC P n ⟨some d, .load t x, ty, pos, af, gd⟩ st (st.set d (.agg es)) := zO (aI hd) hx ht he hl
theorem sfc (es : List D) {t f off : Nat} {ds : List D} (hx : st.eval x = .cp ds) (hf : cD P t f off) (he : (ds.drop off).take es.length = es := by exact rfl) (hd : Nat.blt d n = true := by exact rfl) : bC P n ⟨some d, .fieldAddr t x f, ty, pos, af, gd⟩ st (st.set d (.cp es)) := sB (aI hd) hx hf he
theorem sex {vs : List AV} {i : Nat} {v : AV} (hx : st.eval x = .tup vs) (hv : vs[i]? = some v) (hd : Nat.blt d n = true := by exact rfl) : bC P n ⟨some d, .extract x i, ty, pos, af, gd⟩ st (st.set d v) := wN (aI hd) hx hv
theorem sle {α : Type} {k : Nat} {f : α → List D} {xs : List α} {t : TypeId} {e kk : Nat} (hx : st.eval x = .d (.sl k (xs.map f))) (ht : fB P t e kk) (hd : Nat.blt d n = true := by exact rfl) : bC P n ⟨some d, .call { callee := .builtin .len, args := #[x], argTypes := #[t] }, ty, pos, af, gd⟩ st (st.set d (.i xs.length)) := aHm (aI hd) hx ht
theorem sc {i : FuncId} {l : List Operand} {args args' : List AV} {r : AV} {ts : Array TypeId} (hc : ∀ args w, (callFunc i args).run P w = .ok (.enter i args) w) (hf : Fn P i args' r) (hb : BVs st.objs args args') (ha : st.evals l = args := by exact rfl) (hd : (Nat.blt d n && (lG l && r.isLit)) = true := by exact rfl) :
    bC P n ⟨some d, .call { callee := .value (.func i), args := l.toArray, argTypes := ts }, ty, pos, af, gd⟩ st (st.set d r) := iS (aI (bb hd).1) (.func _ _ hc) ha (bb (bb hd).2).1 hb hf (bb (bb hd).2).2
theorem scr {i : FuncId} {l : List Operand} {args : List AV} {r : AV} {ts : Array TypeId} (hc : ∀ args w, (callFunc i args).run P w = .ok (.enter i args) w) (hf : Fn P i args r) (ha : st.evals l = args := by exact rfl) (hd : (Nat.blt d n && (lG l && r.isLit)) = true := by exact rfl) :
    bC P n ⟨some d, .call { callee := .value (.func i), args := l.toArray, argTypes := ts }, ty, pos, af, gd⟩ st (st.set d r) := iS (aI (bb hd).1) (.func _ _ hc) ha (bb (bb hd).2).1 (BVs.refl _ _) hf (bb (bb hd).2).2

theorem tih {c : Operand} {X Y : Code} {b : Bool} {α : Type} {e f : Option α} {r : α} (h : (bif b then e else f) = some r) (ht : b = true → e = some r → Tr P n X st Q) (hf : b = false → f = some r → Tr P n Y st Q) (hc : st.eval c = .d (.lit (.bool b)) := by exact rfl) : Tr P n (.cond c X Y) st Q :=
  xC hc (fun k => ht k (zY k h)) (fun k => hf k (kF k h))
theorem tip {c : Operand} {X Y : Code} {b : Bool} {e f : Prop} (h : bif b then e else f) (ht : b = true → e → Tr P n X st Q) (hf : b = false → f → Tr P n Y st Q) (hc : st.eval c = .d (.lit (.bool b)) := by exact rfl) : Tr P n (.cond c X Y) st Q :=
  xC hc (fun k => ht k (aJt k h)) (fun k => hf k (aJs k h))
omit op x y ty pos af gd dst in
theorem bch {p : Prop} {b : Bool} {α : Type} {e f : Option α} {r : α} (h : (bif b then e else f) = some r) (h1 : b = true → e = some r → p) (h2 : b = false → f = some r → p) : p := aFl b (fun k => h1 k (zY k h)) (fun k => h2 k (kF k h))
theorem tfl (i : Nat) {t t' : TypeId} {f off b o j d' : Nat} {ds : List D} {d0 : D} {ty' : TypeId} {pos' : String} {af' : Array Edge} (hx : st.eval x = .bp b o j) (ho : st.objs[i]? = some (.box b o ds)) (hf : cD P t f off) (hj : ds[j + off]? = some d0) (ht : jX P t') (hr : TrL P n ops rest ((st.set d (.bp b o (j + off))).set d' (.d d0)) Q) (hd : (Nat.blt d n && Nat.blt d' n) = true := by exact rfl) :
    TrL P n ops (⟨some d, .fieldAddr t x f, ty, pos, af, none⟩ :: ⟨some d', .load t' (.tmp d), ty', pos', af', none⟩ :: rest) st Q :=
  tr1 rfl (cK (aI (bb hd).1) hx hf) (tr1 rfl (dA (aI (bb hd).2) (eW _ _ _) ho hj ht) hr)
theorem tkl (i : Nat) {t t' : TypeId} {f off b o j d' : Nat} {ds : List D} {d0 : D} {ty' : TypeId} {pos' : String} {af' : Array Edge} {g s : Nat} {a c : Bool} (hc : c = a) (hx : st.eval x = .bp b o j) (ho : st.objs[i]? = some (.box b o ds)) (hf : cD P t f off) (hj : ds[j + off]? = some d0) (ht : jX P t') (hr : TrL P n ops rest ((st.set d (.bp b o (j + off))).set d' (.d d0)) Q) (hg : (ops[g]?).bind (·.dst) = some s := by exact rfl) (hb : st.env s = .d (.lit (.bool c)) := by exact rfl) (hd : (Nat.blt d n && (Nat.blt d' n && (Nat.blt s n && !Nat.beq s d))) = true := by exact rfl) :
    TrL P n ops (⟨some d, .fieldAddr t x f, ty, pos, af, some (g, a)⟩ :: ⟨some d', .load t' (.tmp d), ty', pos', af', some (g, a)⟩ :: rest) st Q :=
  yH rfl hg (aI (bb (bb (bb hd).2).2).1) hb hc (cK (aI (bb hd).1) hx hf) (yH rfl hg (aI (bb (bb (bb hd).2).2).1) (by
    have h := (bb (bb (bb hd).2).2).2
    show upd st.env d _ s = _
    rw [jK _ _ (fun e => by subst e; simp at h)]; exact hb) hc (dA (aI (bb (bb hd).2).1) (eW _ _ _) ho hj ht) hr)

/-! In a region whose order is open. -/
variable {tab : Tab} {yes no : List Nat} {base : Nat → AV} {objs : List MO} {v : AV} {o : Oper}
def zev (tab : Tab) (yes no : List Nat) (base : Nat → AV) : Operand → Option AV
  | .tmp k => ovL tab yes no base k
  | .const v => some (.d (.lit v))
  | .global _ => some .any
  | .func f => some (.fn f [])
theorem gS {S : Nat → Bool} (hS : Knows S yes no) (h : zev tab yes no base x = some v) : St.eval ⟨ov tab S base, objs⟩ x = v := by
  cases x with
  | tmp k => exact aN hS h
  | const u => exact Option.some.inj h
  | global g => exact Option.some.inj h
  | func f => exact Option.some.inj h
theorem go {i : Nat} (h : ∀ S, Knows S yes no → bC P n ⟨dst, op, ty, pos, af, none⟩ ⟨ov tab S base, objs⟩ ⟨upd (ov tab S base) d v, objs⟩) (hf : find tab d = some (i, v) := by exact rfl) :
    ∀ S, Knows S yes no → ∃ d v, find tab d = some (i, v) ∧ GStep P n ops ⟨dst, op, ty, pos, af, none⟩ ⟨ov tab S base, objs⟩ ⟨upd (ov tab S base) d v, objs⟩ := fun S hS => aJi hf (bJ rfl (h S hS))
theorem gt {i j s : Nat} {b c : Bool} (hc : c = b) (h : ∀ S, Knows S yes no → bC P n ⟨dst, op, ty, pos, af, some (j, b)⟩ ⟨ov tab S base, objs⟩ ⟨upd (ov tab S base) d v, objs⟩) (hf : find tab d = some (i, v) := by exact rfl) (hj : (ops[j]?).bind (·.dst) = some s := by exact rfl) (hb : ovL tab yes no base s = some (.d (.lit (.bool c))) := by exact rfl) (hs : Nat.blt s n = true := by exact rfl) :
    ∀ S, Knows S yes no → ∃ d v, find tab d = some (i, v) ∧ GStep P n ops ⟨dst, op, ty, pos, af, some (j, b)⟩ ⟨ov tab S base, objs⟩ ⟨upd (ov tab S base) d v, objs⟩ := fun S hS => aJi hf (aLb rfl hj (aI hs) (zJ (objs := objs) hS hb) hc (h S hS))
theorem gp {i j s : Nat} {b c : Bool} (hc : c = !b) (hf : find tab d = some (i, .tup []) := by exact rfl) (hj : (ops[j]?).bind (·.dst) = some s := by exact rfl) (hb : ovL tab yes no base s = some (.d (.lit (.bool c))) := by exact rfl) (hs : (Nat.blt d n && Nat.blt s n) = true := by exact rfl) :
    ∀ S, Knows S yes no → ∃ e v, find tab e = some (i, v) ∧ GStep P n ops ⟨some d, op, ty, pos, af, some (j, b)⟩ ⟨ov tab S base, objs⟩ ⟨upd (ov tab S base) e v, objs⟩ := fun S hS => ⟨d, .tup [], hf, aLa rfl rfl (aI (bb hs).1) hj (aI (bb hs).2) (zJ (objs := objs) hS hb) hc⟩
theorem gq {i j s : Nat} {b : Bool} (hf : find tab d = some (i, .tup []) := by exact rfl) (hj : (ops[j]?).bind (·.dst) = some s := by exact rfl) (hb : ovL tab yes no base s = some (.tup []) := by exact rfl) (hs : (Nat.blt d n && Nat.blt s n) = true := by exact rfl) :
    ∀ S, Knows S yes no → ∃ e v, find tab e = some (i, v) ∧ GStep P n ops ⟨some d, op, ty, pos, af, some (j, b)⟩ ⟨ov tab S base, objs⟩ ⟨upd (ov tab S base) e v, objs⟩ := fun S hS => ⟨d, .tup [], hf, aKb rfl rfl (aI (bb hs).1) hj (aI (bb hs).2) (zJ (objs := objs) hS hb)⟩
theorem zm (v : AV) (hx : zev tab yes no base x = some v := by exact rfl) (hd : (Nat.blt d n && dQ x) = true := by exact rfl) : ∀ S, Knows S yes no → bC P n ⟨some d, .move x, ty, pos, af, gd⟩ ⟨ov tab S base, objs⟩ ⟨upd (ov tab S base) d v, objs⟩ := fun _ hS => jG (aI (bb hd).1) (gS hS hx) (bb hd).2
theorem zf {t f off b o j : Nat} (hx : zev tab yes no base x = some (.bp b o j)) (hf : cD P t f off) (hd : Nat.blt d n = true := by exact rfl) : ∀ S, Knows S yes no → bC P n ⟨some d, .fieldAddr t x f, ty, pos, af, gd⟩ ⟨ov tab S base, objs⟩ ⟨upd (ov tab S base) d (.bp b o (j + off)), objs⟩ := fun _ hS => cK (aI hd) (gS hS hx) hf
theorem zl (i : Nat) {t : TypeId} {b o j : Nat} {ds : List D} {d0 : D} (hx : zev tab yes no base x = some (.bp b o j)) (ho : objs[i]? = some (.box b o ds)) (hj : ds[j]? = some d0) (ht : jX P t) (hd : Nat.blt d n = true := by exact rfl) : ∀ S, Knows S yes no → bC P n ⟨some d, .load t x, ty, pos, af, gd⟩ ⟨ov tab S base, objs⟩ ⟨upd (ov tab S base) d (.d d0), objs⟩ := fun _ hS => dA (aI hd) (gS hS hx) ho hj ht
theorem zla (i : Nat) (es : List D) {t : TypeId} {b o j m : Nat} {ds : List D} (hx : zev tab yes no base x = some (.bp b o j)) (ho : objs[i]? = some (.box b o ds)) (ht : lS P t m) (he : (ds.drop j).take m = es := by exact rfl) (hl : es.length = m := by exact rfl) (hd : Nat.blt d n = true := by exact rfl) : ∀ S, Knows S yes no → bC P n ⟨some d, .load t x, ty, pos, af, gd⟩ ⟨ov tab S base, objs⟩ ⟨upd (ov tab S base) d (.agg es), objs⟩ := fun _ hS => pQ (aI hd) (gS hS hx) ho ht he hl
theorem zar {o : BinOp} {k : IntKind} {p q r : Int} {t u : TypeId} (hx : zev tab yes no base x = some (.d (.lit (.int k p)))) (hy : zev tab yes no base y = some (.d (.lit (.int k q)))) (hr : aBz o p q = some r) (hd : Nat.blt d n = true := by exact rfl) : ∀ S, Knows S yes no → bC P n ⟨some d, .binOp o t x y u, ty, pos, af, gd⟩ ⟨ov tab S base, objs⟩ ⟨upd (ov tab S base) d (.d (.lit (.int k (k.wrap r)))), objs⟩ := fun _ hS => xA (aI hd) (gS hS hx) (gS hS hy) hr
theorem zcm {o : BinOp} {k : IntKind} {p q : Int} {r : Bool} {t u : TypeId} (hx : zev tab yes no base x = some (.d (.lit (.int k p)))) (hy : zev tab yes no base y = some (.d (.lit (.int k q)))) (hr : cmp o p q = some r) (hd : Nat.blt d n = true := by exact rfl) : ∀ S, Knows S yes no → bC P n ⟨some d, .binOp o t x y u, ty, pos, af, gd⟩ ⟨ov tab S base, objs⟩ ⟨upd (ov tab S base) d (.b r), objs⟩ := fun _ hS => aCa (aI hd) (gS hS hx) (gS hS hy) hr
theorem zpt (v : AV) {c : Operand} {b : Bool} (hb : b = true) (hc : zev tab yes no base c = some (.d (.lit (.bool b))) := by exact rfl) (hx : zev tab yes no base x = some v := by exact rfl) (hd : (Nat.blt d n && dQ x) = true := by exact rfl) : ∀ S, Knows S yes no → bC P n ⟨some d, .pick c x y, ty, pos, af, gd⟩ ⟨ov tab S base, objs⟩ ⟨upd (ov tab S base) d v, objs⟩ := fun _ hS => aDw (aI (bb hd).1) (gS hS hc) hb (gS hS hx) (bb hd).2
theorem zpf (v : AV) {c : Operand} {b : Bool} (hb : b = false) (hc : zev tab yes no base c = some (.d (.lit (.bool b))) := by exact rfl) (hx : zev tab yes no base y = some v := by exact rfl) (hd : (Nat.blt d n && dQ y) = true := by exact rfl) : ∀ S, Knows S yes no → bC P n ⟨some d, .pick c x y, ty, pos, af, gd⟩ ⟨ov tab S base, objs⟩ ⟨upd (ov tab S base) d v, objs⟩ := fun _ hS => aDv (aI (bb hd).1) (gS hS hc) hb (gS hS hx) (bb hd).2
theorem zn {b : Bool} {t : TypeId} (hx : zev tab yes no base x = some (.d (.lit (.bool b)))) (hd : Nat.blt d n = true := by exact rfl) : ∀ S, Knows S yes no → bC P n ⟨some d, .unOp .not t x, ty, pos, af, gd⟩ ⟨ov tab S base, objs⟩ ⟨upd (ov tab S base) d (.b (!b)), objs⟩ := fun _ hS => aJk (aI hd) (gS hS hx)
theorem zix {t e k : Nat} {rows : List (List D)} {kd : IntKind} {p : Int} {ds : List D} (hx : zev tab yes no base x = some (.d (.sl k rows))) (hy : zev tab yes no base y = some (.d (.lit (.int kd p)))) (ht : fB P t e k) (hp : idx rows p = some ds) (hd : Nat.blt d n = true := by exact rfl) : ∀ S, Knows S yes no → bC P n ⟨some d, .indexAddr t x y, ty, pos, af, gd⟩ ⟨ov tab S base, objs⟩ ⟨upd (ov tab S base) d (.cp ds), objs⟩ := fun _ hS => zM (aI hd) (gS hS hx) (gS hS hy) ht hp
theorem zia (m : Nat) {t e k : Nat} {v : Value} {e' : Nat} {rows : List (List D)} {kd : IntKind} {p : Int} {ds : List D} (hx : zev tab yes no base x = some (.d (.lit v))) (ho : objs[m]? = some (.arr v e' k rows)) (hy : zev tab yes no base y = some (.d (.lit (.int kd p)))) (ht : fB P t e k) (hp : idx rows p = some ds) (hd : Nat.blt d n = true := by exact rfl) : ∀ S, Knows S yes no → bC P n ⟨some d, .indexAddr t x y, ty, pos, af, gd⟩ ⟨ov tab S base, objs⟩ ⟨upd (ov tab S base) d (.ep v k p.toNat 0), objs⟩ := fun _ hS => kE (aI hd) (gS hS hx) ho (gS hS hy) ht hp
theorem zlc {t : TypeId} {d0 : D} {ds : List D} (hx : zev tab yes no base x = some (.cp (d0 :: ds))) (ht : jX P t) (hd : Nat.blt d n = true := by exact rfl) : ∀ S, Knows S yes no → bC P n ⟨some d, .load t x, ty, pos, af, gd⟩ ⟨ov tab S base, objs⟩ ⟨upd (ov tab S base) d (.d d0), objs⟩ := fun _ hS => gK (aI hd) (gS hS hx) ht
theorem aLh (es : List D) {t : TypeId} {m : Nat} {ds : List D} (hx : zev tab yes no base x = some (.cp ds)) (ht : lS P t m) (he : ds.take m = es := by exact rfl) (hl : es.length = m := by exact rfl) (hd : Nat.blt d n = true := by exact rfl) : ∀ S, Knows S yes no → bC P n ⟨some d, .load t x, ty, pos, af, gd⟩ ⟨ov tab S base, objs⟩ ⟨upd (ov tab S base) d (.agg es), objs⟩ := fun _ hS => zO (aI hd) (gS hS hx) ht he hl
theorem zfc (es : List D) {t f off : Nat} {ds : List D} (hx : zev tab yes no base x = some (.cp ds)) (hf : cD P t f off) (he : (ds.drop off).take es.length = es := by exact rfl) (hd : Nat.blt d n = true := by exact rfl) : ∀ S, Knows S yes no → bC P n ⟨some d, .fieldAddr t x f, ty, pos, af, gd⟩ ⟨ov tab S base, objs⟩ ⟨upd (ov tab S base) d (.cp es), objs⟩ := fun _ hS => sB (aI hd) (gS hS hx) hf he
theorem zle {α : Type} {k : Nat} {f : α → List D} {xs : List α} {t : TypeId} {e kk : Nat} (hx : zev tab yes no base x = some (.d (.sl k (xs.map f)))) (ht : fB P t e kk) (hd : Nat.blt d n = true := by exact rfl) : ∀ S, Knows S yes no → bC P n ⟨some d, .call { callee := .builtin .len, args := #[x], argTypes := #[t] }, ty, pos, af, gd⟩ ⟨ov tab S base, objs⟩ ⟨upd (ov tab S base) d (.i xs.length), objs⟩ := fun _ hS => aHm (aI hd) (gS hS hx) ht
/-- All that the part of a region without order must show. -/
theorem dok {l : List Oper} {m : Nat} (yn : List (List Nat × List Nat)) (h : AllSteps P n l.toArray tab st.env st.objs (l.take m) yn 0) (h1 : (tR l && (qZ (kA l l.length) m l.length && (Nat.ble m l.length && (kP tab && ((tab.all fun x => Nat.blt x.2.1 m) && aEf (kA l l.length) m yn))))) = true := by kernel_rfl) : aGi P n l m tab st :=
  ⟨(bb h1).1, (bb (bb h1).2).1, (bb (bb (bb h1).2).2).1, (bb (bb (bb (bb h1).2).2).2).1, (bb (bb (bb (bb (bb h1).2).2).2).2).1, yn, (bb (bb (bb (bb (bb h1).2).2).2).2).2, h⟩
end
end Go.Am
