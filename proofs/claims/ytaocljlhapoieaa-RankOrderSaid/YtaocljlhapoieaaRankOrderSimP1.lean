/- The functions compute what the shallow ones say: printed by program. -/
import Derived.Test.YtaocljlhapoieaaRkSh
import Derived.Test.YtaocljlhapoieaaAmRange
import Derived.Test.YtaocljlhapoieaaRkShelf
import Derived.Test.YtaocljlhapoieaaAmSub
import Derived.Test.YtaocljlhapoieaaChecked
import Derived.Test.YtaocljlhapoieaaAmShort
import Derived.KernelRfl
namespace Go.Am
open Go.Proofs
set_option maxRecDepth 100000
set_option maxHeartbeats 40000000

theorem mix : Try.prog.follows .mixedOrders = true := Checked.mixed Try.checked

theorem cK : oN Try.prog 25 5 := ⟨Try.isAgg25, Try.sizeOf25⟩
theorem nR : dH Try.prog 27 1 1 := dI Try.runUnderlying27 rfl rfl Try.sizeOf3
theorem aT : mD Try.prog 3 := ⟨Try.isAgg3, Try.sizeOf3⟩
theorem eN : SliceTy Try.prog 28 3 1 8 (.int .i64 0) := ⟨Try.underlying28, ⟨Try.t3, by kernel_rfl, rfl, rfl, rfl⟩, rfl, by decide⟩
theorem iJ : dH Try.prog 25 0 0 := dI Try.runUnderlying25 rfl rfl Try.sizeOf3
theorem uK : dH Try.prog 27 0 0 := dI Try.runUnderlying27 rfl rfl Try.sizeOf3
theorem bO : dH Try.prog 25 2 2 := dI Try.runUnderlying25 rfl rfl Try.sizeOf22
theorem cZ : mD Try.prog 22 := ⟨Try.isAgg22, Try.sizeOf22⟩
theorem bA : SliceTy Try.prog 22 42 5 40 (.agg #[.int .i64 0, .int .i64 0, .int .i64 0, .int .i64 0, .bool false]) := ⟨Try.underlying22, ⟨Try.t42, by kernel_rfl, rfl, rfl, rfl⟩, rfl, by decide⟩
theorem iZ : dH Try.prog 25 3 3 := dI Try.runUnderlying25 rfl rfl Try.sizeOf23
theorem eZ : mD Try.prog 23 := ⟨Try.isAgg23, Try.sizeOf23⟩
theorem dJ : SliceTy Try.prog 23 66 3 24 (.agg #[.int .i64 0, .int .i64 0, .int .i64 0]) := ⟨Try.underlying23, ⟨Try.t66, by kernel_rfl, rfl, rfl, rfl⟩, rfl, by decide⟩
theorem gN : dH Try.prog 25 4 4 := dI Try.runUnderlying25 rfl rfl Try.sizeOf23
theorem nC : dH Try.prog 42 2 2 := dI Try.runUnderlying42 rfl rfl Try.sizeOf3
theorem uJ : dH Try.prog 25 1 1 := dI Try.runUnderlying25 rfl rfl Try.sizeOf3
theorem cS : oN Try.prog 42 5 := ⟨Try.isAgg42, Try.sizeOf42⟩
theorem rC : oN Try.prog 66 3 := ⟨Try.isAgg66, Try.sizeOf66⟩
theorem lU : dH Try.prog 66 0 0 := dI Try.runUnderlying66 rfl rfl Try.sizeOf3
theorem kB : dH Try.prog 66 1 1 := dI Try.runUnderlying66 rfl rfl Try.sizeOf3
theorem lV : dH Try.prog 66 2 2 := dI Try.runUnderlying66 rfl rfl Try.sizeOf3
theorem lC : dH Try.prog 42 0 0 := dI Try.runUnderlying42 rfl rfl Try.sizeOf3
theorem qR : dH Try.prog 42 1 1 := dI Try.runUnderlying42 rfl rfl Try.sizeOf3
theorem sB : dH Try.prog 42 3 3 := dI Try.runUnderlying42 rfl rfl Try.sizeOf3
theorem xY : aDa Try.prog 42 aA := by
  rintro ⟨a0, a1, a2, a3, a4⟩ ⟨b0, b1, b2, b3, b4⟩ w
  simp [aA, dT, go_sem, Op.eqFields, Program.fieldsOf] <;> (repeat' split) <;> simp_all
theorem vA : sA Try.prog 42 (.agg #[.int .i64 0, .int .i64 0, .int .i64 0, .int .i64 0, .bool false]) [(0, 1), (1, 1), (2, 1), (3, 1), (4, 1)] := ⟨Try.zeroValue42, _, Try.runUnderlying42, fun w => by simp [Try.sizeOf3, Try.sizeOf4]⟩
theorem aHk : sA Try.prog 66 (.agg #[.int .i64 0, .int .i64 0, .int .i64 0]) [(0, 1), (1, 1), (2, 1)] := ⟨Try.zeroValue66, _, Try.runUnderlying66, fun w => by simp [Try.sizeOf3]⟩
theorem yS : sA Try.prog 25 (.agg #[.int .i64 0, .int .i64 0, .slice none 0 0, .slice none 0 0, .slice none 0 0]) [(0, 1), (1, 1), (2, 1), (3, 1), (4, 1)] := ⟨Try.zeroValue25, _, Try.runUnderlying25, fun w => by simp [Try.sizeOf22, Try.sizeOf23, Try.sizeOf3]⟩
theorem aKj : sA Try.prog 76 (.agg #[.int .i64 0, .int .i64 0, .slice none 0 0, .slice none 0 0, .slice none 0 0]) [(0, 5)] := ⟨Try.zeroValue76, _, Try.runUnderlying76, fun w => by simp [Try.sizeOf25]⟩
theorem iK : dH Try.prog 76 0 0 := dI Try.runUnderlying76 rfl rfl Try.sizeOf25
theorem aJq : sA Try.prog 114 (.agg #[.int .i64 0, .int .i64 0, .int .i64 0, .int .i64 0]) [(0, 1), (1, 1), (2, 1), (3, 1)] := ⟨Try.zeroValue114, _, Try.runUnderlying114, fun w => by simp [Try.sizeOf3]⟩
theorem qS : dH Try.prog 42 4 4 := dI Try.runUnderlying42 rfl rfl Try.sizeOf4
theorem tR : mD Try.prog 4 := ⟨Try.isAgg4, Try.sizeOf4⟩
theorem vD : dH Try.prog 114 2 2 := dI Try.runUnderlying114 rfl rfl Try.sizeOf3
theorem tX : oN Try.prog 114 4 := ⟨Try.isAgg114, Try.sizeOf114⟩
theorem pB : SliceTy Try.prog 112 114 4 32 (.agg #[.int .i64 0, .int .i64 0, .int .i64 0, .int .i64 0]) := ⟨Try.underlying112, ⟨Try.t114, by kernel_rfl, rfl, rfl, rfl⟩, rfl, by decide⟩
theorem yA : dH Try.prog 114 0 0 := dI Try.runUnderlying114 rfl rfl Try.sizeOf3
theorem aCd : dH Try.prog 114 1 1 := dI Try.runUnderlying114 rfl rfl Try.sizeOf3
theorem aCe : dH Try.prog 114 3 3 := dI Try.runUnderlying114 rfl rfl Try.sizeOf3
theorem wM : mD Try.prog 70 := ⟨Try.isAgg70, Try.sizeOf70⟩
theorem yO : SliceTy Try.prog 128 28 1 24 (.slice none 0 0) := ⟨Try.underlying128, ⟨Try.t28, by kernel_rfl, rfl, rfl, rfl⟩, rfl, by decide⟩
theorem aGy : mD Try.prog 28 := ⟨Try.isAgg28, Try.sizeOf28⟩
theorem wS : SliceTy Try.prog 118 22 1 24 (.slice none 0 0) := ⟨Try.underlying118, ⟨Try.t22, by kernel_rfl, rfl, rfl, rfl⟩, rfl, by decide⟩
theorem aJx (b : Bool) (a : aB) (w : World) : (Instr.checkKey b 10000 42 (.agg ((aA a).map dT).toArray)).run Try.prog w = .ok () w := by
  obtain ⟨a1, a2, a3, a4, a5⟩ := a;rw [show (10000 : Nat) = 9990 + 10 from rfl]
  generalize (9990 : Nat) = m
  simp [Instr.checkKey, aA, dT, go_sem, Std.Legacy.Range.forIn_eq_forIn_range', Std.Legacy.Range.size]
theorem aGs : aAi Try.prog 42 (fun a : aB => Value.agg ((aA a).map dT).toArray) :=
  aDn Try.underlying42 xY aJx (fun a w => aHs _ rfl _ _) (by
    rintro ⟨a1, a2, a3, a4, a5⟩ ⟨b1, b2, b3, b4, b5⟩ h
    simp [aA] at h ⊢
    simp_all) (fun _ => rfl)
theorem aGn : aDa Try.prog 66 aF := by
  rintro ⟨a0, a1, a2⟩ ⟨b0, b1, b2⟩ w
  simp [aF, dT, go_sem, Op.eqFields, Program.fieldsOf] <;> (repeat' split) <;> simp_all
theorem zY : dH Try.prog 59 0 0 := dI Try.runUnderlying59 rfl rfl Try.sizeOf3
theorem sC : dH Try.prog 59 1 1 := dI Try.runUnderlying59 rfl rfl Try.sizeOf3

theorem dX (d : Int) (c : Int) (a : Int) {r : Bool} (h : dO d c a = some r) : Fn Try.prog 58 [.i d, .i c, .i a] (.b r) := by
 unfold dO at h;refine Fn.of_tr Try.func58 rfl (rs := [.tmp 6]) Try.results58 Try.ntmps58 (Nat.le_of_ble_eq_true rfl) ?_;refine aE (aC (ta (.b false) (aD (aE (aC (tm (.i d) (tm (.i c) (to (scm rfl rfl rfl) (tm (.b (decide (c ≤ d))) ?_)))))))));obtain ⟨b1, h2, h⟩ := bns h;refine aW 4 [] 14 b1 ?_ ?_
 ·refine bch h2 (fun c3 h2 => ?_) (fun c3 h2 => ?_)
  ·refine tk c3 (sm (.i d)) (tk c3 (sm (.i a)) (tk c3 (scm rfl rfl rfl) (to (spt (.b (decide (d ≤ a))) c3) ?_)));obtain rfl := sIn h2;refine aD (aM rfl trivial rfl)
  ·refine tp c3 (tp c3 (tp c3 (to (spf (.b false) c3) ?_)));obtain rfl := sIn h2;refine aD (aM rfl trivial rfl)
 ·refine ta (.b b1) (aD ?_);obtain rfl := sIn h;exact aU ⟨rfl, _, .one _, rfl, rfl⟩

theorem qA (e : Int) (j : List aJ) {r : Bool} (h : iE e j = some r) : Fn Try.prog 78 [.i e, .d (.sl 3 (j.map aF))] (.b r) := by
 unfold iE at h;refine Fn.of_tr Try.func78 rfl (rs := [.tmp 4]) Try.results78 Try.ntmps78 (Nat.le_of_ble_eq_true rfl) ?_;refine aE (aC (ta (.b false) (aD (aE (aE (aC (ta (.i 0) (aD (bB ?_)))))))));refine bN (S := Int) [0, 1] (fun s1 => [(5, .i s1)]) (fun s1 => []) (fun k s1 => eX e j k s1) (fun _ => rfl) (0) h (aN [] rfl rfl (aK rfl (aO ⟨rfl, rfl, trivial⟩))) ?_;rintro k2 c h;simp only [eX] at h;refine aE (aE (aC (tm (.i c) (tm (.d (.sl 3 (j.map aF))) (to (sle rfl dJ.of) (to (scm rfl rfl rfl) (aD ?_)))))));refine tih h (fun c3 h => ?_) (fun c3 h => ?_)
 ·refine aS (aE (bB (aE ?_)));obtain ⟨x4, h5, h⟩ := bns h;obtain ⟨r6, h7, h⟩ := bns h;obtain ⟨b8, h9, h⟩ := bns h;obtain ⟨y, p, h⟩ := bns h;obtain ⟨v, o, h⟩ := bns h;refine fI mix 38 [0, 1, 5] [(49, .b v)] ?_ ?_
  ·refine bch h9 (fun l h9 => ?_) (fun l h9 => ?_)
   ·obtain rfl := sIn h9;have a : true = true := rfl;have p := wF a p;obtain rfl := sIn p;have f : true = true := rfl;have o := wF f o;obtain rfl := sIn o;refine ⟨[(12, 0, .d (.sl 3 (j.map aF))), (13, 1, .i c), (14, 2, .cp [.lit (.int .i64 x4.Player), .lit (.int .i64 x4.From), .lit (.int .i64 x4.To)]), (15, 3, .cp [.lit (.int .i64 x4.Player)]), (16, 4, .i x4.Player), (17, 5, .i e), (18, 6, .i (w64 (e - 1))), (19, 7, .b r6), (20, 8, .b (!r6)), (21, 9, .b (!r6)), (22, 10, .tup []), (23, 11, .tup []), (24, 12, .tup []), (25, 13, .tup []), (26, 14, .tup []), (27, 15, .tup []), (28, 16, .b true), (29, 17, .b (true)), (30, 18, .tup []), (31, 19, .tup []), (32, 20, .tup []), (33, 21, .tup []), (34, 22, .tup []), (35, 23, .tup []), (36, 24, .tup []), (37, 25, .tup []), (38, 26, .tup []), (39, 27, .tup []), (40, 28, .tup []), (41, 29, .b true), (42, 30, .b (true)), (43, 31, .tup []), (44, 32, .tup []), (45, 33, .tup []), (46, 34, .tup []), (47, 35, .tup []), (48, 36, .tup []), (49, 37, .b true)], ?_, ?_⟩
    · exact dok [([], []), ([], []), ([0, 1], []), ([2], []), ([3], []), ([], []), ([5], []), ([4, 6], []), ([7], []), ([8], []), ([9], []), ([9], []), ([9, 10, 11], []), ([9, 12], []), ([9, 13], []), ([9, 14], []), ([9, 15], []), ([16], []), ([17], []), ([17], []), ([17, 18, 19], []), ([17, 20], []), ([17, 21], []), ([17], []), ([17], []), ([17, 23, 24], []), ([17, 25], []), ([17, 26], []), ([17, 22, 27], []), ([17, 28], []), ([29], []), ([30], []), ([30], []), ([30, 31, 32], []), ([30, 33], []), ([30, 34], []), ([30, 35], []), ([30, 36], [])] ⟨go (zm (.d (.sl 3 (j.map aF)))),
      go (zm (.i c)),
      go (zix rfl rfl dJ.of (aX aF h5)),
      go (zfc [.lit (.int .i64 x4.Player)] rfl lU),
      go (zlc rfl aT),
      go (zm (.i e)),
      go (zar rfl rfl rfl),
      go fun S hS => jH (aG rfl) (.func _ _ Try.call58) (ev2 (aL hS rfl) (ev2 rfl (ev2 (aL hS rfl) evn))) rfl (BVs.refl _ _) (dX _ _ _ h7) rfl,
      go (zn rfl),
      go (zm (.b (!r6))),
      gp l,
      gp l,
      gp l,
      gp l,
      gp l,
      gp l,
      go (zpt (.b true) l),
      go (zm (.b (true))),
      gp a,
      gp a,
      gp a,
      gp a,
      gp a,
      gp a,
      gp a,
      gp a,
      gp a,
      gp a,
      gp a,
      go (zpt (.b true) a),
      go (zm (.b (true))),
      gp f,
      gp f,
      gp f,
      gp f,
      gp f,
      gp f,
      go (zpt (.b true) f), trivial⟩
    · exact cW (aK rfl (aO ⟨rfl, rfl, rfl, trivial⟩))
   ·obtain ⟨g, s, h9⟩ := bns h9;obtain rfl := sIn h9;refine bch p (fun a p => ?_) (fun a p => ?_)
    ·obtain rfl := sIn p;have f : true = true := rfl;have o := wF f o;obtain rfl := sIn o;refine ⟨[(12, 0, .d (.sl 3 (j.map aF))), (13, 1, .i c), (14, 2, .cp [.lit (.int .i64 x4.Player), .lit (.int .i64 x4.From), .lit (.int .i64 x4.To)]), (15, 3, .cp [.lit (.int .i64 x4.Player)]), (16, 4, .i x4.Player), (17, 5, .i e), (18, 6, .i (w64 (e - 1))), (19, 7, .b r6), (20, 8, .b (!r6)), (21, 9, .b (!r6)), (22, 10, .d (.sl 3 (j.map aF))), (23, 11, .i c), (24, 12, .cp [.lit (.int .i64 g.Player), .lit (.int .i64 g.From), .lit (.int .i64 g.To)]), (25, 13, .cp [.lit (.int .i64 g.From)]), (26, 14, .i g.From), (27, 15, .b (decide (g.From < 0))), (28, 16, .b (decide (g.From < 0))), (29, 17, .b (decide (g.From < 0))), (30, 18, .tup []), (31, 19, .tup []), (32, 20, .tup []), (33, 21, .tup []), (34, 22, .tup []), (35, 23, .tup []), (36, 24, .tup []), (37, 25, .tup []), (38, 26, .tup []), (39, 27, .tup []), (40, 28, .tup []), (41, 29, .b true), (42, 30, .b (true)), (43, 31, .tup []), (44, 32, .tup []), (45, 33, .tup []), (46, 34, .tup []), (47, 35, .tup []), (48, 36, .tup []), (49, 37, .b true)], ?_, ?_⟩
     · exact dok [([], []), ([], []), ([0, 1], []), ([2], []), ([3], []), ([], []), ([5], []), ([4, 6], []), ([7], []), ([8], []), ([9], []), ([9], []), ([9, 10, 11], []), ([9, 12], []), ([9, 13], []), ([9, 14], []), ([9, 15], []), ([16], []), ([17], []), ([17], []), ([17, 18, 19], []), ([17, 20], []), ([17, 21], []), ([17], []), ([17], []), ([17, 23, 24], []), ([17, 25], []), ([17, 26], []), ([17, 22, 27], []), ([17, 28], []), ([29], []), ([30], []), ([30], []), ([30, 31, 32], []), ([30, 33], []), ([30, 34], []), ([30, 35], []), ([30, 36], [])] ⟨go (zm (.d (.sl 3 (j.map aF)))),
      go (zm (.i c)),
      go (zix rfl rfl dJ.of (aX aF h5)),
      go (zfc [.lit (.int .i64 x4.Player)] rfl lU),
      go (zlc rfl aT),
      go (zm (.i e)),
      go (zar rfl rfl rfl),
      go fun S hS => jH (aG rfl) (.func _ _ Try.call58) (ev2 (aL hS rfl) (ev2 rfl (ev2 (aL hS rfl) evn))) rfl (BVs.refl _ _) (dX _ _ _ h7) rfl,
      go (zn rfl),
      go (zm (.b (!r6))),
      gt l (zm (.d (.sl 3 (j.map aF)))),
      gt l (zm (.i c)),
      gt l (zix rfl rfl dJ.of (aX aF s)),
      gt l (zfc [.lit (.int .i64 g.From)] rfl kB),
      gt l (zlc rfl aT),
      gt l (zcm rfl rfl rfl),
      go (zpf (.b (decide (g.From < 0))) l),
      go (zm (.b (decide (g.From < 0)))),
      gp a,
      gp a,
      gp a,
      gp a,
      gp a,
      gp a,
      gp a,
      gp a,
      gp a,
      gp a,
      gp a,
      go (zpt (.b true) a),
      go (zm (.b (true))),
      gp f,
      gp f,
      gp f,
      gp f,
      gp f,
      gp f,
      go (zpt (.b true) f), trivial⟩
     · exact cW (aK rfl (aO ⟨rfl, rfl, rfl, trivial⟩))
    ·obtain ⟨m, t, p⟩ := bns p;obtain ⟨n, u, p⟩ := bns p;obtain rfl := sIn p;refine bch o (fun f o => ?_) (fun f o => ?_)
     ·obtain rfl := sIn o;refine ⟨[(12, 0, .d (.sl 3 (j.map aF))), (13, 1, .i c), (14, 2, .cp [.lit (.int .i64 x4.Player), .lit (.int .i64 x4.From), .lit (.int .i64 x4.To)]), (15, 3, .cp [.lit (.int .i64 x4.Player)]), (16, 4, .i x4.Player), (17, 5, .i e), (18, 6, .i (w64 (e - 1))), (19, 7, .b r6), (20, 8, .b (!r6)), (21, 9, .b (!r6)), (22, 10, .d (.sl 3 (j.map aF))), (23, 11, .i c), (24, 12, .cp [.lit (.int .i64 g.Player), .lit (.int .i64 g.From), .lit (.int .i64 g.To)]), (25, 13, .cp [.lit (.int .i64 g.From)]), (26, 14, .i g.From), (27, 15, .b (decide (g.From < 0))), (28, 16, .b (decide (g.From < 0))), (29, 17, .b (decide (g.From < 0))), (30, 18, .d (.sl 3 (j.map aF))), (31, 19, .i c), (32, 20, .cp [.lit (.int .i64 m.Player), .lit (.int .i64 m.From), .lit (.int .i64 m.To)]), (33, 21, .cp [.lit (.int .i64 m.From)]), (34, 22, .i m.From), (35, 23, .d (.sl 3 (j.map aF))), (36, 24, .i c), (37, 25, .cp [.lit (.int .i64 n.Player), .lit (.int .i64 n.From), .lit (.int .i64 n.To)]), (38, 26, .cp [.lit (.int .i64 n.To)]), (39, 27, .i n.To), (40, 28, .b (decide (n.To < m.From))), (41, 29, .b (decide (n.To < m.From))), (42, 30, .b (decide (n.To < m.From))), (43, 31, .tup []), (44, 32, .tup []), (45, 33, .tup []), (46, 34, .tup []), (47, 35, .tup []), (48, 36, .tup []), (49, 37, .b true)], ?_, ?_⟩
      · exact dok [([], []), ([], []), ([0, 1], []), ([2], []), ([3], []), ([], []), ([5], []), ([4, 6], []), ([7], []), ([8], []), ([9], []), ([9], []), ([9, 10, 11], []), ([9, 12], []), ([9, 13], []), ([9, 14], []), ([9, 15], []), ([16], []), ([17], []), ([17], []), ([17, 18, 19], []), ([17, 20], []), ([17, 21], []), ([17], []), ([17], []), ([17, 23, 24], []), ([17, 25], []), ([17, 26], []), ([17, 22, 27], []), ([17, 28], []), ([29], []), ([30], []), ([30], []), ([30, 31, 32], []), ([30, 33], []), ([30, 34], []), ([30, 35], []), ([30, 36], [])] ⟨go (zm (.d (.sl 3 (j.map aF)))),
      go (zm (.i c)),
      go (zix rfl rfl dJ.of (aX aF h5)),
      go (zfc [.lit (.int .i64 x4.Player)] rfl lU),
      go (zlc rfl aT),
      go (zm (.i e)),
      go (zar rfl rfl rfl),
      go fun S hS => jH (aG rfl) (.func _ _ Try.call58) (ev2 (aL hS rfl) (ev2 rfl (ev2 (aL hS rfl) evn))) rfl (BVs.refl _ _) (dX _ _ _ h7) rfl,
      go (zn rfl),
      go (zm (.b (!r6))),
      gt l (zm (.d (.sl 3 (j.map aF)))),
      gt l (zm (.i c)),
      gt l (zix rfl rfl dJ.of (aX aF s)),
      gt l (zfc [.lit (.int .i64 g.From)] rfl kB),
      gt l (zlc rfl aT),
      gt l (zcm rfl rfl rfl),
      go (zpf (.b (decide (g.From < 0))) l),
      go (zm (.b (decide (g.From < 0)))),
      gt a (zm (.d (.sl 3 (j.map aF)))),
      gt a (zm (.i c)),
      gt a (zix rfl rfl dJ.of (aX aF t)),
      gt a (zfc [.lit (.int .i64 m.From)] rfl kB),
      gt a (zlc rfl aT),
      gt a (zm (.d (.sl 3 (j.map aF)))),
      gt a (zm (.i c)),
      gt a (zix rfl rfl dJ.of (aX aF u)),
      gt a (zfc [.lit (.int .i64 n.To)] rfl lV),
      gt a (zlc rfl aT),
      gt a (zcm rfl rfl rfl),
      go (zpf (.b (decide (n.To < m.From))) a),
      go (zm (.b (decide (n.To < m.From)))),
      gp f,
      gp f,
      gp f,
      gp f,
      gp f,
      gp f,
      go (zpt (.b true) f), trivial⟩
      · exact cW (aK rfl (aO ⟨rfl, rfl, rfl, trivial⟩))
     ·obtain ⟨q, w, o⟩ := bns o;obtain rfl := sIn o;refine ⟨[(12, 0, .d (.sl 3 (j.map aF))), (13, 1, .i c), (14, 2, .cp [.lit (.int .i64 x4.Player), .lit (.int .i64 x4.From), .lit (.int .i64 x4.To)]), (15, 3, .cp [.lit (.int .i64 x4.Player)]), (16, 4, .i x4.Player), (17, 5, .i e), (18, 6, .i (w64 (e - 1))), (19, 7, .b r6), (20, 8, .b (!r6)), (21, 9, .b (!r6)), (22, 10, .d (.sl 3 (j.map aF))), (23, 11, .i c), (24, 12, .cp [.lit (.int .i64 g.Player), .lit (.int .i64 g.From), .lit (.int .i64 g.To)]), (25, 13, .cp [.lit (.int .i64 g.From)]), (26, 14, .i g.From), (27, 15, .b (decide (g.From < 0))), (28, 16, .b (decide (g.From < 0))), (29, 17, .b (decide (g.From < 0))), (30, 18, .d (.sl 3 (j.map aF))), (31, 19, .i c), (32, 20, .cp [.lit (.int .i64 m.Player), .lit (.int .i64 m.From), .lit (.int .i64 m.To)]), (33, 21, .cp [.lit (.int .i64 m.From)]), (34, 22, .i m.From), (35, 23, .d (.sl 3 (j.map aF))), (36, 24, .i c), (37, 25, .cp [.lit (.int .i64 n.Player), .lit (.int .i64 n.From), .lit (.int .i64 n.To)]), (38, 26, .cp [.lit (.int .i64 n.To)]), (39, 27, .i n.To), (40, 28, .b (decide (n.To < m.From))), (41, 29, .b (decide (n.To < m.From))), (42, 30, .b (decide (n.To < m.From))), (43, 31, .d (.sl 3 (j.map aF))), (44, 32, .i c), (45, 33, .cp [.lit (.int .i64 q.Player), .lit (.int .i64 q.From), .lit (.int .i64 q.To)]), (46, 34, .cp [.lit (.int .i64 q.To)]), (47, 35, .i q.To), (48, 36, .b (decide (400 < q.To))), (49, 37, .b (decide (400 < q.To)))], ?_, ?_⟩
      · exact dok [([], []), ([], []), ([0, 1], []), ([2], []), ([3], []), ([], []), ([5], []), ([4, 6], []), ([7], []), ([8], []), ([9], []), ([9], []), ([9, 10, 11], []), ([9, 12], []), ([9, 13], []), ([9, 14], []), ([9, 15], []), ([16], []), ([17], []), ([17], []), ([17, 18, 19], []), ([17, 20], []), ([17, 21], []), ([17], []), ([17], []), ([17, 23, 24], []), ([17, 25], []), ([17, 26], []), ([17, 22, 27], []), ([17, 28], []), ([29], []), ([30], []), ([30], []), ([30, 31, 32], []), ([30, 33], []), ([30, 34], []), ([30, 35], []), ([30, 36], [])] ⟨go (zm (.d (.sl 3 (j.map aF)))),
      go (zm (.i c)),
      go (zix rfl rfl dJ.of (aX aF h5)),
      go (zfc [.lit (.int .i64 x4.Player)] rfl lU),
      go (zlc rfl aT),
      go (zm (.i e)),
      go (zar rfl rfl rfl),
      go fun S hS => jH (aG rfl) (.func _ _ Try.call58) (ev2 (aL hS rfl) (ev2 rfl (ev2 (aL hS rfl) evn))) rfl (BVs.refl _ _) (dX _ _ _ h7) rfl,
      go (zn rfl),
      go (zm (.b (!r6))),
      gt l (zm (.d (.sl 3 (j.map aF)))),
      gt l (zm (.i c)),
      gt l (zix rfl rfl dJ.of (aX aF s)),
      gt l (zfc [.lit (.int .i64 g.From)] rfl kB),
      gt l (zlc rfl aT),
      gt l (zcm rfl rfl rfl),
      go (zpf (.b (decide (g.From < 0))) l),
      go (zm (.b (decide (g.From < 0)))),
      gt a (zm (.d (.sl 3 (j.map aF)))),
      gt a (zm (.i c)),
      gt a (zix rfl rfl dJ.of (aX aF t)),
      gt a (zfc [.lit (.int .i64 m.From)] rfl kB),
      gt a (zlc rfl aT),
      gt a (zm (.d (.sl 3 (j.map aF)))),
      gt a (zm (.i c)),
      gt a (zix rfl rfl dJ.of (aX aF u)),
      gt a (zfc [.lit (.int .i64 n.To)] rfl lV),
      gt a (zlc rfl aT),
      gt a (zcm rfl rfl rfl),
      go (zpf (.b (decide (n.To < m.From))) a),
      go (zm (.b (decide (n.To < m.From)))),
      gt f (zm (.d (.sl 3 (j.map aF)))),
      gt f (zm (.i c)),
      gt f (zix rfl rfl dJ.of (aX aF w)),
      gt f (zfc [.lit (.int .i64 q.To)] rfl lV),
      gt f (zlc rfl aT),
      gt f (zcm rfl rfl rfl),
      go (zpf (.b (decide (400 < q.To))) f), trivial⟩
      · exact cW (aK rfl (aO ⟨rfl, rfl, rfl, trivial⟩))
  ·refine aD ?_;refine tih h (fun x h => ?_) (fun x h => ?_)
   ·refine aE (aC (ta (.b false) (aD ?_)));obtain rfl := sIn h;exact aU ⟨rfl, _, .one _, rfl, rfl⟩
   ·refine dG ?_;refine aC (tm (.i c) (to (sar rfl rfl rfl) (ta (.i (w64 (c + 1))) (aD ?_))));exact ⟨(w64 (c + 1)), h, aN [] rfl rfl (aK rfl (aO ⟨rfl, rfl, trivial⟩))⟩
 ·refine bX ?_;refine .inl ⟨rfl, ?_⟩;simp only [mG] at h;refine aE (aC (tm (.d (.sl 3 (j.map aF))) (to (sle rfl dJ.of) (to (scm rfl rfl rfl) (ta (.b (decide ((j.length : Int) ≤ 8))) (aD ?_))))));obtain rfl := sIn h;exact aU ⟨rfl, _, .one _, rfl, rfl⟩

theorem wH (c : Int) (f : aB) {r : Bool} (h : jX c f = some r) : Fn Try.prog 79 [.i c, .agg (aA f)] (.b r) := by
 unfold jX at h;refine Fn.of_tr Try.func79 rfl (rs := [.tmp 4]) Try.results79 Try.ntmps79 (Nat.le_of_ble_eq_true rfl) ?_;refine aE (aC ?_);refine aZ rfl (eM (v := .agg (aA f)) (aG rfl) rfl rfl rfl) ?_;rintro _ ⟨b1, rfl⟩;refine ta (.b false) (aD (aE (aC (tfl 0 rfl rfl lC rfl aT ?_))));obtain ⟨r2, h3, h⟩ := bns h;refine to (scr Try.call58 (dX _ _ _ h3)) (tm (.b r2) ?_);obtain ⟨b4, h5, h⟩ := bns h;refine aW 6 [3] 14 b4 ?_ ?_
 ·refine bch h5 (fun a h5 => ?_) (fun a h5 => ?_)
  ·refine tkl 0 a rfl rfl qR rfl aT (tk a (sm (.i c)) (tk a (sar rfl rfl rfl) ?_));obtain ⟨g, j, h5⟩ := bns h5;refine tk a (scr Try.call58 (dX _ _ _ j)) (to (spt (.b g) a) ?_);obtain rfl := sIn h5;refine aD (aM rfl ⟨rfl, trivial⟩ rfl)
  ·refine tp a (tp a (tp a (tp a (tp a (to (spf (.b false) a) ?_)))));obtain rfl := sIn h5;refine aD (aM rfl ⟨rfl, trivial⟩ rfl)
 ·refine tm (.b b4) ?_;obtain ⟨b6, h7, h⟩ := bns h;refine aW 4 [3] 19 b6 ?_ ?_
  ·refine bch h7 (fun d h7 => ?_) (fun d h7 => ?_)
   ·refine tkl 0 d rfl rfl nC rfl aT ?_;obtain ⟨k, m, h7⟩ := bns h7;refine tk d (scr Try.call58 (dX _ _ _ m)) (to (spt (.b k) d) ?_);obtain rfl := sIn h7;refine aD (aM rfl ⟨rfl, trivial⟩ rfl)
   ·refine tp d (tp d (tp d (to (spf (.b false) d) ?_)));obtain rfl := sIn h7;refine aD (aM rfl ⟨rfl, trivial⟩ rfl)
  ·refine tm (.b b6) ?_;obtain ⟨b8, h9, h⟩ := bns h;refine aW 4 [] 24 b8 ?_ ?_
   ·refine bch h9 (fun e h9 => ?_) (fun e h9 => ?_)
    ·refine tkl 0 e rfl rfl sB rfl aT ?_;obtain ⟨n, o, h9⟩ := bns h9;refine tk e (scr Try.call58 (dX _ _ _ o)) (to (spt (.b n) e) ?_);obtain rfl := sIn h9;refine aD (aM rfl trivial rfl)
    ·refine tp e (tp e (tp e (to (spf (.b false) e) ?_)));obtain rfl := sIn h9;refine aD (aM rfl trivial rfl)
   ·refine ta (.b b8) (aD ?_);obtain rfl := sIn h;refine bP (bG (bK (l := [4]) ⟨rfl, trivial⟩)) ?_;exact aU ⟨rfl, _, .one _, rfl, rfl⟩

theorem wG (c : aH) {r : Bool} (h : jW c = some r) : Fn Try.prog 41 [.agg (aI c)] (.b r) := by
 unfold jW at h;refine Fn.of_tr Try.func41 rfl (rs := [.tmp 2]) Try.results41 Try.ntmps41 (Nat.le_of_ble_eq_true rfl) ?_;refine aE (aC ?_);refine aZ rfl (eM (v := .agg (aI c)) (aG rfl) rfl rfl rfl) ?_;rintro _ ⟨b1, rfl⟩;refine ta (.b false) (aD (aE (aE (aC (tfl 0 rfl rfl iJ rfl aT ?_)))));obtain ⟨r2, h3, h⟩ := bns h;refine to (scr Try.call58 (dX _ _ _ h3)) (to (sn rfl) (tm (.b (!r2)) ?_));obtain ⟨b4, h5, h⟩ := bns h;refine aW 5 [1] 17 b4 ?_ ?_
 ·refine bch h5 (fun s h5 => ?_) (fun s h5 => ?_)
  ·refine tp s (tp s (tp s (tp s (to (spt (.b true) s) ?_))));obtain rfl := sIn h5;refine aD (aM rfl ⟨rfl, trivial⟩ rfl)
  ·refine tkl 0 s rfl rfl uJ rfl aT ?_;obtain ⟨H, I, h5⟩ := bns h5;refine tk s (scr Try.call58 (dX _ _ _ I)) (tk s (sn rfl) (to (spf (.b (!H)) s) ?_));obtain rfl := sIn h5;refine aD (aM rfl ⟨rfl, trivial⟩ rfl)
 ·refine tm (.b b4) ?_;obtain ⟨b6, h7, h⟩ := bns h;refine aW 5 [1] 23 b6 ?_ ?_
  ·refine bch h7 (fun t h7 => ?_) (fun t h7 => ?_)
   ·refine tp t (tp t (tp t (tp t (to (spt (.b true) t) ?_))));obtain rfl := sIn h7;refine aD (aM rfl ⟨rfl, trivial⟩ rfl)
   ·refine tkl 0 t rfl rfl bO rfl cZ (tk t (sle rfl bA.of) (tk t (scm rfl rfl rfl) (to (spf (.b (decide (40 < (c.Reports.length : Int)))) t) ?_)));obtain rfl := sIn h7;refine aD (aM rfl ⟨rfl, trivial⟩ rfl)
  ·refine tm (.b b6) ?_;obtain ⟨b8, h9, h⟩ := bns h;refine aW 7 [1] 31 b8 ?_ ?_
   ·refine bch h9 (fun f h9 => ?_) (fun f h9 => ?_)
    ·refine tp f (tp f (tp f (tp f (tp f (tp f (to (spt (.b true) f) ?_))))));obtain rfl := sIn h9;refine aD (aM rfl ⟨rfl, trivial⟩ rfl)
    ·refine tkl 0 f rfl rfl iJ rfl aT (tkl 0 f rfl rfl iZ rfl eZ ?_);obtain ⟨J, K, h9⟩ := bns h9;refine tk f (scr Try.call78 (qA _ _ K)) (tk f (sn rfl) (to (spf (.b (!J)) f) ?_));obtain rfl := sIn h9;refine aD (aM rfl ⟨rfl, trivial⟩ rfl)
   ·refine tm (.b b8) ?_;obtain ⟨L, z, h⟩ := bns h;refine aW 7 [1] 39 L ?_ ?_
    ·refine bch z (fun g z => ?_) (fun g z => ?_)
     ·refine tp g (tp g (tp g (tp g (tp g (tp g (to (spt (.b true) g) ?_))))));obtain rfl := sIn z;refine aD (aM rfl ⟨rfl, trivial⟩ rfl)
     ·refine tkl 0 g rfl rfl iJ rfl aT (tkl 0 g rfl rfl gN rfl eZ ?_);obtain ⟨M, N, z⟩ := bns z;refine tk g (scr Try.call78 (qA _ _ N)) (tk g (sn rfl) (to (spf (.b (!M)) g) ?_));obtain rfl := sIn z;refine aD (aM rfl ⟨rfl, trivial⟩ rfl)
    ·refine aD ?_;refine tih h (fun O h => ?_) (fun O h => ?_)
     ·refine aE (aC (ta (.b false) (aD ?_)));obtain rfl := sIn h;refine bP (bG (bK (l := [2]) ⟨rfl, trivial⟩)) ?_;exact aU ⟨rfl, _, .one _, rfl, rfl⟩
     ·refine aS (aE (aE (aC (ta (.i 0) (aD (bB ?_))))));refine bN (S := Int) [1] (fun C => [(3, .i C)]) (fun C => [.box b1 0 (aI c)]) (fun k C => eK c k C) (fun _ => rfl) (0) h (aN [0] rfl rfl (aK rfl (aO ⟨rfl, trivial⟩))) ?_;rintro a3 j h;simp only [eK] at h;refine aE (aE (aC (tm (.i j) (tfl 0 rfl rfl bO rfl cZ (to (sle rfl bA.of) (to (scm rfl rfl rfl) (aD ?_)))))));refine tih h (fun P h => ?_) (fun P h => ?_)
      ·refine aS (aE (bB (aE ?_)));obtain ⟨y, Q, h⟩ := bns h;refine fI mix 7 [1, 3] [(48, .i c.Players), (53, .agg (aA y))] ?_ ?_
       ·refine ⟨[(47, 0, .bp b1 0 0), (48, 1, .i c.Players), (49, 2, .bp b1 0 2), (50, 3, .d (.sl 5 (c.Reports.map aA))), (51, 4, .i j), (52, 5, .cp [.lit (.int .i64 y.Id), .lit (.int .i64 y.Player), .lit (.int .i64 y.Week), .lit (.int .i64 y.Points), .lit (.bool y.Must)]), (53, 6, .agg (aA y))], ?_, ?_⟩
        · exact dok [([], []), ([0], []), ([], []), ([2], []), ([], []), ([3, 4], []), ([5], [])] ⟨go (zf rfl iJ),
      go (zl 0 rfl rfl rfl aT),
      go (zf rfl bO),
      go (zl 0 rfl rfl rfl cZ),
      go (zm (.i j)),
      go (zix rfl rfl bA.of (aX aA Q)),
      go (wC (aA y) rfl cS), trivial⟩
        · exact cW (aK rfl (aK rfl (aO ⟨rfl, rfl, trivial⟩)))
       ·obtain ⟨a4, T, h⟩ := bns h;refine to (scr Try.call79 (wH _ _ T)) (to (sn rfl) (aD ?_));refine tih h (fun U h => ?_) (fun U h => ?_)
        ·refine aE (aC (ta (.b false) (aD ?_)));obtain rfl := sIn h;refine bP (bG (bK (l := [2]) ⟨rfl, trivial⟩)) ?_;exact aU ⟨rfl, _, .one _, rfl, rfl⟩
        ·refine dG ?_;refine aC (tm (.i j) (to (sar rfl rfl rfl) (ta (.i (w64 (j + 1))) (aD ?_))));exact ⟨(w64 (j + 1)), h, aN [0] rfl rfl (aK rfl (aO ⟨rfl, trivial⟩))⟩
      ·refine bX ?_;refine .inl ⟨rfl, ?_⟩;simp only [mV] at h;refine aE (aE (aC (ta (.i 0) (aD (bB ?_)))));refine bN (S := Int) [1] (fun E => [(4, .i E)]) (fun E => [.box b1 0 (aI c)]) (fun k E => cX c k E) (fun _ => rfl) (0) h (aN [0] rfl rfl (aK rfl (aO ⟨rfl, trivial⟩))) ?_;rintro V e h;simp only [cX] at h;refine aE (aE (aC (tm (.i e) (tfl 0 rfl rfl gN rfl eZ (to (sle rfl dJ.of) (to (scm rfl rfl rfl) (aD ?_)))))));refine tih h (fun W h => ?_) (fun W h => ?_)
       ·refine aS (aE (bB (aE (aC (ta (.i 0) (aD ?_))))));refine yZ ?_;refine bN (S := Int) [1, 4] (fun F => [(5, .i F)]) (fun F => [.box b1 0 (aI c)]) (fun k F => fG (cX c V) e c k F) (fun _ => rfl) (0) h (aN [0] rfl rfl (aK rfl (aO ⟨rfl, rfl, trivial⟩))) ?_;rintro a5 m h;simp only [fG] at h;refine aE (aE (aC (tm (.i m) (tm (.i e) (to (scm rfl rfl rfl) (aD ?_))))));refine tih h (fun Y h => ?_) (fun Y h => ?_)
        ·refine aS (aE (bB (aE ?_)));obtain ⟨n, Z, h⟩ := bns h;obtain ⟨u, a0, h⟩ := bns h;refine jC mix 13 [1, 4, 5] (fun a => [(6, .bp (a 10).b 0 0), (7, .bp (a 11).b 0 0), (77, .agg (aF u))]) (fun a => [.box b1 0 (aI c), .box (a 10).b 0 (aF n), .box (a 11).b 0 (aF (aJ.mk 0 0 0))]) ?_ ?_
         ·refine ⟨2, fun a => [(68, 0, .bp b1 0 4), (69, 1, .d (.sl 3 (c.Frozen.map aF))), (70, 2, .i e), (71, 3, .cp [.lit (.int .i64 n.Player), .lit (.int .i64 n.From), .lit (.int .i64 n.To)]), (72, 4, .agg (aF n)), (73, 5, .bp b1 0 4), (74, 6, .d (.sl 3 (c.Frozen.map aF))), (75, 7, .i m), (76, 8, .cp [.lit (.int .i64 u.Player), .lit (.int .i64 u.From), .lit (.int .i64 u.To)]), (77, 9, .agg (aF u)), (6, 10, .bp (a 10).b 0 0), (7, 11, .bp (a 11).b 0 0)], fun a => [([], .box b1 0 (aI c)), ([(12, .box (a 10).b 0 (aF n)), (10, .box (a 10).b 0 (aF (aJ.mk 0 0 0)))], nob), ([(11, .box (a 11).b 0 (aF (aJ.mk 0 0 0)))], nob)], ?_, ?_⟩
          · exact ⟨by kernel_rfl, by kernel_rfl, by kernel_rfl, fun _ => by kernel_rfl, fun _ => by kernel_rfl, fun _ => by kernel_rfl, fun _ => rfl, [([], [12]), ([0], [12]), ([], [12]), ([1, 2], [12]), ([3], [12]), ([], []), ([5], []), ([], []), ([6, 7], []), ([8], []), ([], [12]), ([], [12]), ([4, 10, 11], [])], by kernel_rfl, ⟨fun a S hw hi hS => aQ (X := a) rfl (hw a) rfl (aY rfl (iH (aG rfl) (aL hS rfl) gN)),
      fun a S hw hi hS => aQ (X := a) rfl (hw a) rfl (aY rfl (gI (aG rfl) (aL hS rfl) (i := 0) (og hS rfl rfl) rfl eZ)),
      fun a S hw hi hS => aQ (X := a) rfl (hw a) rfl (aY rfl (bW (v := .i e) (aG rfl) (aL hS rfl) rfl)),
      fun a S hw hi hS => aQ (X := a) rfl (hw a) rfl (aY rfl (rO (aG rfl) (aL hS rfl) (aL hS rfl) dJ.of (aX aF Z))),
      fun a S hw hi hS => aQ (X := a) rfl (hw a) rfl (aY rfl (tU (aG rfl) (aL hS rfl) rC (es := (aF n)) rfl rfl)),
      fun a S hw hi hS => aQ (X := a) rfl (hw a) rfl (aY rfl (iH (aG rfl) (aL hS rfl) gN)),
      fun a S hw hi hS => aQ (X := a) rfl (hw a) rfl (aY rfl (gI (aG rfl) (aL hS rfl) (i := 0) (og hS rfl rfl) rfl eZ)),
      fun a S hw hi hS => aQ (X := a) rfl (hw a) rfl (aY rfl (bW (v := .i m) (aG rfl) (aL hS rfl) rfl)),
      fun a S hw hi hS => aQ (X := a) rfl (hw a) rfl (aY rfl (rO (aG rfl) (aL hS rfl) (aL hS rfl) dJ.of (aX aF a0))),
      fun a S hw hi hS => aQ (X := a) rfl (hw a) rfl (aY rfl (tU (aG rfl) (aL hS rfl) rC (es := (aF u)) rfl rfl)),
      fun a S hw hi hS => wT (X := a) (p := 1) (v := fun x => .bp x.b 0 0) (mo := fun x => .box x.b 0 (aF (aJ.mk 0 0 0))) hS hi rfl rfl (fun _ => rfl) hw (fun _ => rfl) (fun _ => rfl) (fun _ => rfl) (fun _ => ⟨rfl, rfl, .inr rfl, ⟨rfl, rfl, .inr rfl, ⟨rfl, rfl, .inr rfl, ⟨rfl, rfl, .inr rfl, ⟨rfl, rfl, .inr rfl, ⟨rfl, rfl, .inr rfl, ⟨rfl, rfl, .inr rfl, ⟨rfl, rfl, .inr rfl, ⟨rfl, rfl, .inr rfl, ⟨rfl, rfl, .inr rfl, ⟨rfl, rfl, .inl rfl, ⟨rfl, rfl, .inr rfl, trivial⟩⟩⟩⟩⟩⟩⟩⟩⟩⟩⟩⟩) (fun _ => ⟨trivial, rfl, ⟨⟨rfl, .inl rfl, ⟨rfl, .inl rfl, trivial⟩⟩, rfl, ⟨⟨rfl, .inr rfl, trivial⟩, rfl, trivial⟩⟩⟩) (pD (dK (zs := [.lit (.int .i64 0), .lit (.int .i64 0), .lit (.int .i64 0)]) (aG rfl) Try.zeroValue66 rfl rfl) (by rintro _ ⟨w, rfl⟩; exact ⟨⟨w, undef⟩, aN [0, 3, 2] rfl rfl (le_refl _)⟩)),
      fun a S hw hi hS => wT (X := a) (p := 2) (v := fun x => .bp x.b 0 0) (mo := fun x => .box x.b 0 (aF (aJ.mk 0 0 0))) hS hi rfl rfl (fun _ => rfl) hw (fun _ => rfl) (fun _ => rfl) (fun _ => rfl) (fun _ => ⟨rfl, rfl, .inr rfl, ⟨rfl, rfl, .inr rfl, ⟨rfl, rfl, .inr rfl, ⟨rfl, rfl, .inr rfl, ⟨rfl, rfl, .inr rfl, ⟨rfl, rfl, .inr rfl, ⟨rfl, rfl, .inr rfl, ⟨rfl, rfl, .inr rfl, ⟨rfl, rfl, .inr rfl, ⟨rfl, rfl, .inr rfl, ⟨rfl, rfl, .inr rfl, ⟨rfl, rfl, .inl rfl, trivial⟩⟩⟩⟩⟩⟩⟩⟩⟩⟩⟩⟩) (fun _ => ⟨trivial, rfl, ⟨⟨rfl, .inr rfl, ⟨rfl, .inr rfl, trivial⟩⟩, rfl, ⟨⟨rfl, .inl rfl, trivial⟩, rfl, trivial⟩⟩⟩) (pD (dK (zs := [.lit (.int .i64 0), .lit (.int .i64 0), .lit (.int .i64 0)]) (aG rfl) Try.zeroValue66 rfl rfl) (by rintro _ ⟨w, rfl⟩; exact ⟨⟨w, undef⟩, aN [0, 1, 3] rfl rfl (le_refl _)⟩)),
      fun a S hw hi hS => oE (X := a) hS rfl rfl rfl (p := 1) rfl rfl (aY rfl (pP (i := 1) (aL hS rfl) (og hS rfl rfl) (aL hS rfl) rfl rfl Try.sizeOf66 rfl (aG rfl) (Nat.le_of_ble_eq_true rfl) (ds' := (aF n)) rfl)), trivial⟩⟩
          · exact fun a => cW (aK rfl (aK rfl (aK rfl (aO ⟨rfl, rfl, rfl, trivial⟩))))
         ·intro a;refine to (sst 2 rfl rfl Try.sizeOf66 (aF u)) (aD (aE (aC (tfl 1 rfl rfl lU rfl aT (tfl 2 rfl rfl lU rfl aT (to (scm rfl rfl rfl) (tm (.b (decide (n.Player = u.Player))) ?_)))))));obtain ⟨G, A, h⟩ := bns h;refine aW 6 [1, 4, 5, 6, 7] 89 G ?_ ?_
          ·refine bch A (fun o A => ?_) (fun o A => ?_)
           ·refine tkl 1 o rfl rfl kB rfl aT (tkl 2 o rfl rfl lV rfl aT (tk o (scm rfl rfl rfl) (to (spt (.b (decide (n.From ≤ u.To))) o) ?_)));obtain rfl := sIn A;refine aD (aM rfl ⟨rfl, rfl, rfl, rfl, rfl, trivial⟩ rfl)
           ·refine tp o (tp o (tp o (tp o (tp o (to (spf (.b false) o) ?_)))));obtain rfl := sIn A;refine aD (aM rfl ⟨rfl, rfl, rfl, rfl, rfl, trivial⟩ rfl)
          ·refine tm (.b G) ?_;obtain ⟨a1, B, h⟩ := bns h;refine aW 6 [1, 4, 5] 96 a1 ?_ ?_
           ·refine bch B (fun q B => ?_) (fun q B => ?_)
            ·refine tkl 2 q rfl rfl kB rfl aT (tkl 1 q rfl rfl lV rfl aT (tk q (scm rfl rfl rfl) (to (spt (.b (decide (u.From ≤ n.To))) q) ?_)));obtain rfl := sIn B;refine aD (aM rfl ⟨rfl, rfl, rfl, trivial⟩ rfl)
            ·refine tp q (tp q (tp q (tp q (tp q (to (spf (.b false) q) ?_)))));obtain rfl := sIn B;refine aD (aM rfl ⟨rfl, rfl, rfl, trivial⟩ rfl)
           ·refine aD ?_;refine tih h (fun a2 h => ?_) (fun a2 h => ?_)
            ·refine aE (aC (ta (.b false) (aD ?_)));obtain rfl := sIn h;refine bP (bG (bK (l := [2]) ⟨rfl, trivial⟩)) ?_;exact aU ⟨rfl, _, .one _, rfl, rfl⟩
            ·refine dG ?_;refine aC (tm (.i m) (to (sar rfl rfl rfl) (ta (.i (w64 (m + 1))) (aD ?_))));exact ⟨(w64 (m + 1)), h, aN [0] rfl rfl (aK rfl (aO ⟨rfl, rfl, trivial⟩))⟩
        ·refine bX ?_;refine .inl ⟨rfl, ?_⟩;simp only [mY] at h;simp only [mX] at h;refine aC (tm (.i e) (to (sar rfl rfl rfl) (ta (.i (w64 (e + 1))) (aD ?_))));exact ⟨(w64 (e + 1)), h, aN [0] rfl rfl (aK rfl (aO ⟨rfl, trivial⟩))⟩
       ·refine bX ?_;refine .inl ⟨rfl, ?_⟩;simp only [mW] at h;refine aE (aC (ta (.b true) (aD ?_)));obtain rfl := sIn h;refine bP (bG (bK (l := [2]) ⟨rfl, trivial⟩)) ?_;exact aU ⟨rfl, _, .one _, rfl, rfl⟩

theorem xX (f : List aB) {r : Bool} (h : lT f = some r) : Fn Try.prog 42 [.d (.sl 5 (f.map aA))] (.b r) := by
 unfold lT at h;refine Fn.of_tr Try.func42 rfl (rs := [.tmp 2]) Try.results42 Try.ntmps42 (Nat.le_of_ble_eq_true rfl) ?_;refine aE (aC (ta (.b false) (aD (aE (aE (aC (ta (.i 0) (aD (bB ?_)))))))));refine bN (S := Int) [0] (fun s1 => [(3, .i s1)]) (fun s1 => []) (fun k s1 => dW f k s1) (fun _ => rfl) (0) h (aN [] rfl rfl (aK rfl (aO ⟨rfl, trivial⟩))) ?_;rintro k2 e h;simp only [dW] at h;refine aE (aE (aC (tm (.i e) (tm (.d (.sl 5 (f.map aA))) (to (sle rfl bA.of) (to (scm rfl rfl rfl) (aD ?_)))))));refine tih h (fun c3 h => ?_) (fun c3 h => ?_)
 ·refine aS (aE (bB (aE (aC (ta (.i 0) (aD ?_))))));refine yZ ?_;refine bN (S := Int) [0, 3] (fun s4 => [(4, .i s4)]) (fun s4 => []) (fun k s4 => gJ (dW f k2) f e k s4) (fun _ => rfl) (0) h (aN [] rfl rfl (aK rfl (aO ⟨rfl, rfl, trivial⟩))) ?_;rintro k5 g h;simp only [gJ] at h;refine aE (aE (aC (tm (.i g) (tm (.i e) (to (scm rfl rfl rfl) (aD ?_))))));refine tih h (fun c6 h => ?_) (fun c6 h => ?_)
  ·refine aS (aE (bB (aE ?_)));obtain ⟨x7, h8, h⟩ := bns h;obtain ⟨x9, n, h⟩ := bns h;obtain ⟨o, m, h⟩ := bns h;refine fI mix 22 [0, 3, 4] [(37, .b o)] ?_ ?_
   ·refine bch m (fun c m => ?_) (fun c m => ?_)
    ·obtain ⟨j, p, m⟩ := bns m;obtain ⟨l, q, m⟩ := bns m;obtain rfl := sIn m;refine ⟨[(16, 0, .d (.sl 5 (f.map aA))), (17, 1, .i e), (18, 2, .cp [.lit (.int .i64 x7.Id), .lit (.int .i64 x7.Player), .lit (.int .i64 x7.Week), .lit (.int .i64 x7.Points), .lit (.bool x7.Must)]), (19, 3, .cp [.lit (.int .i64 x7.Id)]), (20, 4, .i x7.Id), (21, 5, .d (.sl 5 (f.map aA))), (22, 6, .i g), (23, 7, .cp [.lit (.int .i64 x9.Id), .lit (.int .i64 x9.Player), .lit (.int .i64 x9.Week), .lit (.int .i64 x9.Points), .lit (.bool x9.Must)]), (24, 8, .cp [.lit (.int .i64 x9.Id)]), (25, 9, .i x9.Id), (26, 10, .b (decide (x7.Id = x9.Id))), (27, 11, .b (decide (x7.Id = x9.Id))), (28, 12, .d (.sl 5 (f.map aA))), (29, 13, .i e), (30, 14, .cp [.lit (.int .i64 j.Id), .lit (.int .i64 j.Player), .lit (.int .i64 j.Week), .lit (.int .i64 j.Points), .lit (.bool j.Must)]), (31, 15, .agg (aA j)), (32, 16, .d (.sl 5 (f.map aA))), (33, 17, .i g), (34, 18, .cp [.lit (.int .i64 l.Id), .lit (.int .i64 l.Player), .lit (.int .i64 l.Week), .lit (.int .i64 l.Points), .lit (.bool l.Must)]), (35, 19, .agg (aA l)), (36, 20, .b (!decide (j = l))), (37, 21, .b (!decide (j = l)))], ?_, ?_⟩
     · exact dok [([], []), ([], []), ([0, 1], []), ([2], []), ([3], []), ([], []), ([], []), ([5, 6], []), ([7], []), ([8], []), ([4, 9], []), ([10], []), ([11], []), ([11], []), ([11, 12, 13], []), ([11, 14], []), ([11], []), ([11], []), ([11, 16, 17], []), ([11, 18], []), ([11, 15, 19], []), ([11, 20], [])] ⟨go (zm (.d (.sl 5 (f.map aA)))),
      go (zm (.i e)),
      go (zix rfl rfl bA.of (aX aA h8)),
      go (zfc [.lit (.int .i64 x7.Id)] rfl lC),
      go (zlc rfl aT),
      go (zm (.d (.sl 5 (f.map aA)))),
      go (zm (.i g)),
      go (zix rfl rfl bA.of (aX aA n)),
      go (zfc [.lit (.int .i64 x9.Id)] rfl lC),
      go (zlc rfl aT),
      go (zcm rfl rfl rfl),
      go (zm (.b (decide (x7.Id = x9.Id)))),
      gt c (zm (.d (.sl 5 (f.map aA)))),
      gt c (zm (.i e)),
      gt c (zix rfl rfl bA.of (aX aA p)),
      gt c (wC (aA j) rfl cS),
      gt c (zm (.d (.sl 5 (f.map aA)))),
      gt c (zm (.i g)),
      gt c (zix rfl rfl bA.of (aX aA q)),
      gt c (wC (aA l) rfl cS),
      gt c fun S hS => aBd (a := j) (b := l) (aG rfl) (aL hS rfl) (aL hS rfl) rfl rfl Try.eqGuardType42 xY,
      go (zpt (.b (!decide (j = l))) c), trivial⟩
     · exact cW (aK rfl (aO ⟨rfl, rfl, rfl, trivial⟩))
    ·obtain rfl := sIn m;refine ⟨[(16, 0, .d (.sl 5 (f.map aA))), (17, 1, .i e), (18, 2, .cp [.lit (.int .i64 x7.Id), .lit (.int .i64 x7.Player), .lit (.int .i64 x7.Week), .lit (.int .i64 x7.Points), .lit (.bool x7.Must)]), (19, 3, .cp [.lit (.int .i64 x7.Id)]), (20, 4, .i x7.Id), (21, 5, .d (.sl 5 (f.map aA))), (22, 6, .i g), (23, 7, .cp [.lit (.int .i64 x9.Id), .lit (.int .i64 x9.Player), .lit (.int .i64 x9.Week), .lit (.int .i64 x9.Points), .lit (.bool x9.Must)]), (24, 8, .cp [.lit (.int .i64 x9.Id)]), (25, 9, .i x9.Id), (26, 10, .b (decide (x7.Id = x9.Id))), (27, 11, .b (decide (x7.Id = x9.Id))), (28, 12, .tup []), (29, 13, .tup []), (30, 14, .tup []), (31, 15, .tup []), (32, 16, .tup []), (33, 17, .tup []), (34, 18, .tup []), (35, 19, .tup []), (36, 20, .tup []), (37, 21, .b false)], ?_, ?_⟩
     · exact dok [([], []), ([], []), ([0, 1], []), ([2], []), ([3], []), ([], []), ([], []), ([5, 6], []), ([7], []), ([8], []), ([4, 9], []), ([10], []), ([11], []), ([11], []), ([11, 12, 13], []), ([11, 14], []), ([11], []), ([11], []), ([11, 16, 17], []), ([11, 18], []), ([11, 15, 19], []), ([11, 20], [])] ⟨go (zm (.d (.sl 5 (f.map aA)))),
      go (zm (.i e)),
      go (zix rfl rfl bA.of (aX aA h8)),
      go (zfc [.lit (.int .i64 x7.Id)] rfl lC),
      go (zlc rfl aT),
      go (zm (.d (.sl 5 (f.map aA)))),
      go (zm (.i g)),
      go (zix rfl rfl bA.of (aX aA n)),
      go (zfc [.lit (.int .i64 x9.Id)] rfl lC),
      go (zlc rfl aT),
      go (zcm rfl rfl rfl),
      go (zm (.b (decide (x7.Id = x9.Id)))),
      gp c,
      gp c,
      gp c,
      gp c,
      gp c,
      gp c,
      gp c,
      gp c,
      gp c,
      go (zpf (.b false) c), trivial⟩
     · exact cW (aK rfl (aO ⟨rfl, rfl, rfl, trivial⟩))
   ·refine aD ?_;refine tih h (fun s h => ?_) (fun s h => ?_)
    ·refine aE (aC (ta (.b true) (aD ?_)));obtain rfl := sIn h;exact aU ⟨rfl, _, .one _, rfl, rfl⟩
    ·refine dG ?_;refine aC (tm (.i g) (to (sar rfl rfl rfl) (ta (.i (w64 (g + 1))) (aD ?_))));exact ⟨(w64 (g + 1)), h, aN [] rfl rfl (aK rfl (aO ⟨rfl, rfl, trivial⟩))⟩
  ·refine bX ?_;refine .inl ⟨rfl, ?_⟩;simp only [oH] at h;simp only [oG] at h;refine aC (tm (.i e) (to (sar rfl rfl rfl) (ta (.i (w64 (e + 1))) (aD ?_))));exact ⟨(w64 (e + 1)), h, aN [] rfl rfl (aK rfl (aO ⟨rfl, trivial⟩))⟩
 ·refine bX ?_;refine .inl ⟨rfl, ?_⟩;simp only [oF] at h;refine aE (aC (ta (.b false) (aD ?_)));obtain rfl := sIn h;exact aU ⟨rfl, _, .one _, rfl, rfl⟩

theorem sR (a : aH) {r : Int} (h : kA a = some r) : Fn Try.prog 15 [.agg (aI a)] (.i r) := by
 unfold kA at h;refine Fn.of_tr Try.func15 rfl (rs := [.tmp 2]) Try.results15 Try.ntmps15 (Nat.le_of_ble_eq_true rfl) ?_;refine aE (aC ?_);refine aZ rfl (eM (v := .agg (aI a)) (aG rfl) rfl rfl rfl) ?_;rintro _ ⟨b1, rfl⟩;refine ta (.i 0) (aD (aE (aE (aC (to (sla 0 (aI a) rfl rfl cK) ?_)))));obtain ⟨r2, h3, h⟩ := bns h;refine to (scr Try.call41 (wG _ h3)) (to (sn rfl) (aD ?_));refine tih h (fun c4 h => ?_) (fun c4 h => ?_)
 ·refine aE (aC (ta (.i 40) (aD ?_)));obtain rfl := sIn h;refine bP (bG (bK (l := [2]) ⟨rfl, trivial⟩)) ?_;exact aU ⟨rfl, _, .one _, rfl, rfl⟩
 ·refine aS (aE (aE (aC (tfl 0 rfl rfl bO rfl cZ ?_))));obtain ⟨r5, h6, h⟩ := bns h;refine to (scr Try.call42 (xX _ h6)) (aD ?_);refine tih h (fun c7 h => ?_) (fun c7 h => ?_)
  ·refine aE (aC (ta (.i 41) (aD ?_)));obtain rfl := sIn h;refine bP (bG (bK (l := [2]) ⟨rfl, trivial⟩)) ?_;exact aU ⟨rfl, _, .one _, rfl, rfl⟩
  ·refine aS (aE (aC (ta (.i 0) (aD ?_))));obtain rfl := sIn h;refine bP (bG (bK (l := [2]) ⟨rfl, trivial⟩)) ?_;exact aU ⟨rfl, _, .one _, rfl, rfl⟩

theorem zW (a : aH) {r : Bool} (h : iD a = some r) : Fn Try.prog 13 [.agg (aI a)] (.b r) := by
 unfold iD at h;refine Fn.of_tr Try.func13 rfl (rs := [.tmp 2]) Try.results13 Try.ntmps13 (Nat.le_of_ble_eq_true rfl) ?_;refine aE (aC ?_);refine aZ rfl (eM (v := .agg (aI a)) (aG rfl) rfl rfl rfl) ?_;rintro _ ⟨b1, rfl⟩;refine ta (.b false) (aD (aE (aE (aC (tfl 0 rfl rfl bO rfl cZ (to (sle rfl bA.of) (to (scm rfl rfl rfl) (tm (.b (decide (60 < (a.Reports.length : Int)))) ?_))))))));obtain ⟨b2, h3, h⟩ := bns h;refine aW 5 [1] 13 b2 ?_ ?_
 ·refine bch h3 (fun d h3 => ?_) (fun d h3 => ?_)
  ·refine tp d (tp d (tp d (tp d (to (spt (.b true) d) ?_))));obtain rfl := sIn h3;refine aD (aM rfl ⟨rfl, trivial⟩ rfl)
  ·refine tkl 0 d rfl rfl iZ rfl eZ (tk d (sle rfl dJ.of) (tk d (scm rfl rfl rfl) (to (spf (.b (decide (20 < (a.Bans.length : Int)))) d) ?_)));obtain rfl := sIn h3;refine aD (aM rfl ⟨rfl, trivial⟩ rfl)
 ·refine tm (.b b2) ?_;obtain ⟨b4, h5, h⟩ := bns h;refine aW 5 [1] 19 b4 ?_ ?_
  ·refine bch h5 (fun e h5 => ?_) (fun e h5 => ?_)
   ·refine tp e (tp e (tp e (tp e (to (spt (.b true) e) ?_))));obtain rfl := sIn h5;refine aD (aM rfl ⟨rfl, trivial⟩ rfl)
   ·refine tkl 0 e rfl rfl gN rfl eZ (tk e (sle rfl dJ.of) (tk e (scm rfl rfl rfl) (to (spf (.b (decide (20 < (a.Frozen.length : Int)))) e) ?_)));obtain rfl := sIn h5;refine aD (aM rfl ⟨rfl, trivial⟩ rfl)
  ·refine aD ?_;refine tih h (fun c6 h => ?_) (fun c6 h => ?_)
   ·refine aE (aC (ta (.b true) (aD ?_)));obtain rfl := sIn h;refine bP (bG (bK (l := [2]) ⟨rfl, trivial⟩)) ?_;exact aU ⟨rfl, _, .one _, rfl, rfl⟩
   ·refine aS (aE (aE (aC (to (sla 0 (aI a) rfl rfl cK) ?_))));obtain ⟨r7, h8, h⟩ := bns h;refine to (scr Try.call15 (sR _ h8)) (to (scm rfl rfl rfl) (aD ?_));refine tih h (fun c9 h => ?_) (fun c9 h => ?_)
    ·refine aE (aC (ta (.b false) (aD ?_)));obtain rfl := sIn h;refine bP (bG (bK (l := [2]) ⟨rfl, trivial⟩)) ?_;exact aU ⟨rfl, _, .one _, rfl, rfl⟩
    ·refine aS (aE (aE (aC (ta (.i 0) (aD (bB ?_))))));refine bN (S := Int) [1] (fun j => [(3, .i j)]) (fun j => [.box b1 0 (aI a)]) (fun k j => eQ a k j) (fun _ => rfl) (0) h (aN [0] rfl rfl (aK rfl (aO ⟨rfl, trivial⟩))) ?_;rintro s c h;simp only [eQ] at h;refine aE (aE (aC (tm (.i c) (tfl 0 rfl rfl bO rfl cZ (to (sle rfl bA.of) (to (scm rfl rfl rfl) (aD ?_)))))));refine tih h (fun n h => ?_) (fun n h => ?_)
     ·refine aS (aE (bB (aE (aC (tfl 0 rfl rfl bO rfl cZ (tm (.i c) ?_))))));obtain ⟨o, p, h⟩ := bns h;refine to (six rfl rfl bA.of (aX aA p)) (to (sfc [.lit (.int .i64 o.Week)] rfl nC) (to (slc rfl aT) (to (scm rfl rfl rfl) (aD ?_))));refine tih h (fun q h => ?_) (fun q h => ?_)
      ·refine aE (aC (ta (.b true) (aD ?_)));obtain rfl := sIn h;refine bP (bG (bK (l := [2]) ⟨rfl, trivial⟩)) ?_;exact aU ⟨rfl, _, .one _, rfl, rfl⟩
      ·refine dG ?_;refine aC (tm (.i c) (to (sar rfl rfl rfl) (ta (.i (w64 (c + 1))) (aD ?_))));exact ⟨(w64 (c + 1)), h, aN [0] rfl rfl (aK rfl (aO ⟨rfl, trivial⟩))⟩
     ·refine bX ?_;refine .inl ⟨rfl, ?_⟩;simp only [jK] at h;refine aE (aC (tfl 0 rfl rfl iJ rfl aT (to (scm rfl rfl rfl) (tm (.b (decide (5 < a.Players))) ?_))));obtain ⟨m, g, h⟩ := bns h;refine aW 5 [] 45 m ?_ ?_
      ·refine bch g (fun f g => ?_) (fun f g => ?_)
       ·refine tp f (tp f (tp f (tp f (to (spt (.b true) f) ?_))));obtain rfl := sIn g;refine aD (aM rfl trivial rfl)
       ·refine tkl 0 f rfl rfl bO rfl cZ (tk f (sle rfl bA.of) (tk f (scm rfl rfl rfl) (to (spf (.b (decide (10 < (a.Reports.length : Int)))) f) ?_)));obtain rfl := sIn g;refine aD (aM rfl trivial rfl)
      ·refine ta (.b m) (aD ?_);obtain rfl := sIn h;refine bP (bG (bK (l := [2]) ⟨rfl, trivial⟩)) ?_;exact aU ⟨rfl, _, .one _, rfl, rfl⟩

theorem wX {r : aH} (h : oS = some r) : Fn Try.prog 43 [] (.agg (aI r)) := by
 unfold oS at h;refine qH Try.func43 rfl (rs := [.cell 0 25]) Try.results43 Try.ntmps43 (Nat.le_of_ble_eq_true rfl) ?_;refine aE (aC ?_);refine aZ rfl (dK (zs := [.lit (.int .i64 0), .lit (.int .i64 0), .sl 5 ((([] : List aB)).map aA), .sl 3 ((([] : List aJ)).map aF), .sl 3 ((([] : List aJ)).map aF)]) (aG rfl) Try.zeroValue25 rfl rfl) ?_;rintro _ ⟨b1, rfl⟩;refine aD (aE (aC (to (jQ (aG rfl) vA (zs := [.lit (.int .i64 0), .lit (.int .i64 0), .lit (.int .i64 0), .lit (.int .i64 0), .lit (.bool false)]) rfl rfl rfl rfl (es := [.lit (.int .i64 1), .lit (.int .i64 0), .lit (.int .i64 10), .lit (.int .i64 500), .lit (.bool false)]) rfl) ?_)));refine to (jQ (aG rfl) vA (zs := [.lit (.int .i64 0), .lit (.int .i64 0), .lit (.int .i64 0), .lit (.int .i64 0), .lit (.bool false)]) rfl rfl rfl rfl (es := [.lit (.int .i64 2), .lit (.int .i64 0), .lit (.int .i64 20), .lit (.int .i64 300), .lit (.bool false)]) rfl) ?_;refine to (jQ (aG rfl) vA (zs := [.lit (.int .i64 0), .lit (.int .i64 0), .lit (.int .i64 0), .lit (.int .i64 0), .lit (.bool false)]) rfl rfl rfl rfl (es := [.lit (.int .i64 3), .lit (.int .i64 0), .lit (.int .i64 30), .lit (.int .i64 100), .lit (.bool true)]) rfl) ?_;refine to (jQ (aG rfl) vA (zs := [.lit (.int .i64 0), .lit (.int .i64 0), .lit (.int .i64 0), .lit (.int .i64 0), .lit (.bool false)]) rfl rfl rfl rfl (es := [.lit (.int .i64 4), .lit (.int .i64 1), .lit (.int .i64 12), .lit (.int .i64 400), .lit (.bool false)]) rfl) ?_;refine to (jQ (aG rfl) vA (zs := [.lit (.int .i64 0), .lit (.int .i64 0), .lit (.int .i64 0), .lit (.int .i64 0), .lit (.bool false)]) rfl rfl rfl rfl (es := [.lit (.int .i64 5), .lit (.int .i64 1), .lit (.int .i64 40), .lit (.int .i64 200), .lit (.bool false)]) rfl) ?_;refine to (jQ (aG rfl) vA (zs := [.lit (.int .i64 0), .lit (.int .i64 0), .lit (.int .i64 0), .lit (.int .i64 0), .lit (.bool false)]) rfl rfl rfl rfl (es := [.lit (.int .i64 6), .lit (.int .i64 2), .lit (.int .i64 15), .lit (.int .i64 600), .lit (.bool false)]) rfl) ?_;refine to (hT (aG rfl) bA rfl rfl (rows := ([(aB.mk 1 0 10 500 false), (aB.mk 2 0 20 300 false), (aB.mk 3 0 30 100 true), (aB.mk 4 1 12 400 false), (aB.mk 5 1 40 200 false), (aB.mk 6 2 15 600 false)]).map aA) rfl (bZ (f := aA) fun _ => rfl) rfl (by decide)) ?_;refine to (jQ (aG rfl) aHk (zs := [.lit (.int .i64 0), .lit (.int .i64 0), .lit (.int .i64 0)]) rfl rfl rfl rfl (es := [.lit (.int .i64 1), .lit (.int .i64 50), .lit (.int .i64 55)]) rfl) ?_;refine to (hT (aG rfl) dJ rfl rfl (rows := ([(aJ.mk 1 50 55)]).map aF) rfl (bZ (f := aF) fun _ => rfl) rfl (by decide)) ?_;refine to (jQ (aG rfl) aHk (zs := [.lit (.int .i64 0), .lit (.int .i64 0), .lit (.int .i64 0)]) rfl rfl rfl rfl (es := [.lit (.int .i64 2), .lit (.int .i64 20), .lit (.int .i64 29)]) rfl) ?_;refine to (hT (aG rfl) dJ rfl rfl (rows := ([(aJ.mk 2 20 29)]).map aF) rfl (bZ (f := aF) fun _ => rfl) rfl (by decide)) ?_;refine to (jQ (aG rfl) yS (zs := [.lit (.int .i64 0), .lit (.int .i64 0), .sl 5 ((([] : List aB)).map aA), .sl 3 ((([] : List aJ)).map aF), .sl 3 ((([] : List aJ)).map aF)]) rfl rfl rfl rfl (es := [.lit (.int .i64 3), .lit (.int .i64 2), .sl 5 ((([(aB.mk 1 0 10 500 false), (aB.mk 2 0 20 300 false), (aB.mk 3 0 30 100 true), (aB.mk 4 1 12 400 false), (aB.mk 5 1 40 200 false), (aB.mk 6 2 15 600 false)])).map aA), .sl 3 ((([(aJ.mk 1 50 55)])).map aF), .sl 3 ((([(aJ.mk 2 20 29)])).map aF)]) rfl) ?_;refine to (sst 0 rfl rfl Try.sizeOf25 (aI (aH.mk 3 2 ([(aB.mk 1 0 10 500 false), (aB.mk 2 0 20 300 false), (aB.mk 3 0 30 100 true), (aB.mk 4 1 12 400 false), (aB.mk 5 1 40 200 false), (aB.mk 6 2 15 600 false)]) ([(aJ.mk 1 50 55)]) ([(aJ.mk 2 20 29)])))) (aD ?_);obtain rfl := sIn h;exact aU ⟨rfl, _, [.box b1 0 (aI (aH.mk 3 2 ([(aB.mk 1 0 10 500 false), (aB.mk 2 0 20 300 false), (aB.mk 3 0 30 100 true), (aB.mk 4 1 12 400 false), (aB.mk 5 1 40 200 false), (aB.mk 6 2 15 600 false)]) ([(aJ.mk 1 50 55)]) ([(aJ.mk 2 20 29)])))], .one (.cell 0 25 rfl (i := 0) rfl cK (es := (aI (aH.mk 3 2 ([(aB.mk 1 0 10 500 false), (aB.mk 2 0 20 300 false), (aB.mk 3 0 30 100 true), (aB.mk 4 1 12 400 false), (aB.mk 5 1 40 200 false), (aB.mk 6 2 15 600 false)]) ([(aJ.mk 1 50 55)]) ([(aJ.mk 2 20 29)])))) rfl rfl), .refl _, .same _⟩

theorem dY (d : Int) (c : Int) (a : Int) {r : Bool} (h : dP d c a = some r) : Fn Try.prog 47 [.i d, .i c, .i a] (.b r) := by
 unfold dP at h;refine Fn.of_tr Try.func47 rfl (rs := [.tmp 6]) Try.results47 Try.ntmps47 (Nat.le_of_ble_eq_true rfl) ?_;refine aE (aC (ta (.b false) (aD (aE (aC (tm (.i c) (tm (.i d) (to (scm rfl rfl rfl) (tm (.b (decide (c ≤ d))) ?_)))))))));obtain ⟨b1, h2, h⟩ := bns h;refine aW 4 [] 14 b1 ?_ ?_
 ·refine bch h2 (fun c3 h2 => ?_) (fun c3 h2 => ?_)
  ·refine tk c3 (sm (.i d)) (tk c3 (sm (.i a)) (tk c3 (scm rfl rfl rfl) (to (spt (.b (decide (d ≤ a))) c3) ?_)));obtain rfl := sIn h2;refine aD (aM rfl trivial rfl)
  ·refine tp c3 (tp c3 (tp c3 (to (spf (.b false) c3) ?_)));obtain rfl := sIn h2;refine aD (aM rfl trivial rfl)
 ·refine ta (.b b1) (aD ?_);obtain rfl := sIn h;exact aU ⟨rfl, _, .one _, rfl, rfl⟩

theorem rU (e : List aJ) (g : aJ → Option Bool) {r : Int} (c : Nat) (f : List AV) (j : ∀ args w, (callFunc c args).run Try.prog w = .ok (.enter c args) w) (l : ∀ (x0 : aJ) r, g x0 = some r → Fn Try.prog c ([.agg (aF x0)] ++ f) (.b r)) (h : fR e g = some r) : Fn Try.prog 97 [.d (.sl 3 (e.map aF)), .fn c f] (.i r) := by
 unfold fR at h;refine Fn.of_tr Try.func97 rfl (rs := [.tmp 4]) Try.results97 Try.ntmps97 (Nat.le_of_ble_eq_true rfl) ?_;refine aE (aC (ta (.i 0) (aD (aE (aE (aC (tm (.d (.sl 3 (e.map aF))) (to (sle rfl dJ.of) (tm (.i 0) (aD (bB ?_)))))))))));refine bN (S := Int) [0, 1, 7] (fun s1 => [(8, .i s1)]) (fun s1 => []) (fun k s1 => dC e g (e.length : Int) k s1) (fun _ => rfl) (0) h (aN [] rfl rfl (aK rfl (aO ⟨rfl, rfl, rfl, trivial⟩))) ?_;rintro k2 a h;simp only [dC] at h;refine aE (aC (to (scm rfl rfl rfl) (aD (aE ?_))));refine tih h (fun c3 h => ?_) (fun c3 h => ?_)
 ·refine aS (aE (bB (aE (aC (tm (.i a) (ta (.i a) (aD (aE (aC (tm (.fn c f) (tm (.d (.sl 3 (e.map aF))) (tm (.i a) ?_))))))))))));obtain ⟨x4, h5, h⟩ := bns h;refine to (six rfl rfl dJ.of (aX aF h5)) (to (sK (aF x4) rfl rC) ?_);obtain ⟨r6, h7, h⟩ := bns h;refine to (jH (aG rfl) (.clo _ _ _ _ j rfl) (uG rfl) rfl (BVs.refl _ _) (l _ _  h7) rfl) ?_;refine aD ?_;refine tih h (fun c8 h => ?_) (fun c8 h => ?_)
  ·refine aE (aC (tm (.i a) (ta (.i a) (aD ?_))));obtain rfl := sIn h;exact aU ⟨rfl, _, .one _, rfl, rfl⟩
  ·refine dG ?_;refine aC (to (sar rfl rfl rfl) (tm (.i (w64 (a + 1))) (aD ?_)));exact ⟨(w64 (a + 1)), h, aN [] rfl rfl (aK rfl (aO ⟨rfl, rfl, rfl, trivial⟩))⟩
 ·refine bX ?_;refine .inl ⟨rfl, ?_⟩;simp only [jD] at h;refine aE (aC (ta (.i (-1)) (aD ?_)));obtain rfl := sIn h;exact aU ⟨rfl, _, .one _, rfl, rfl⟩

theorem iV (e : List aJ) (i : aJ → Option Bool) {r : Bool} (a : Nat) (c : List AV) (f : ∀ args w, (callFunc a args).run Try.prog w = .ok (.enter a args) w) (g : ∀ (x0 : aJ) r, i x0 = some r → Fn Try.prog a ([.agg (aF x0)] ++ c) (.b r)) (h : dB e i = some r) : Fn Try.prog 82 [.d (.sl 3 (e.map aF)), .fn a c] (.b r) := by
 unfold dB at h;refine Fn.of_tr Try.func82 rfl (rs := [.tmp 4]) Try.results82 Try.ntmps82 (Nat.le_of_ble_eq_true rfl) ?_;refine aE (aC (ta (.b false) (aD (aE (aC (tm (.d (.sl 3 (e.map aF))) (tm (.fn a c) ?_)))))));obtain ⟨r1, h2, h⟩ := bns h;refine to (scr Try.call97 (rU _ _ a c f g h2)) (to (scm rfl rfl rfl) (ta (.b (decide (0 ≤ r1))) (aD ?_)));obtain rfl := sIn h;exact aU ⟨rfl, _, .one _, rfl, rfl⟩

theorem yK (e : aJ) (f : aH) {r : Bool} (h : lZ e f = some r) : Fn Try.prog 126 [.agg (aF e), .cp (aI f)] (.b r) := by
 unfold lZ at h;refine Fn.of_tr Try.func126 rfl (rs := [.tmp 3]) Try.results126 Try.ntmps126 (Nat.le_of_ble_eq_true rfl) ?_;refine aE (aC ?_);refine aZ rfl (eM (v := .agg (aF e)) (aG rfl) rfl rfl rfl) ?_;rintro _ ⟨b1, rfl⟩;refine ta (.b false) (aD (aE (aC (tfl 0 rfl rfl lU rfl aT (to (sfc [.lit (.int .i64 f.Players)] rfl iJ) (to (slc rfl aT) (to (sar rfl rfl rfl) ?_)))))));obtain ⟨r2, h3, h⟩ := bns h;refine to (scr Try.call47 (dY _ _ _ h3)) (to (sn rfl) (tm (.b (!r2)) ?_));obtain ⟨b4, h5, h⟩ := bns h;refine aW 6 [2] 17 b4 ?_ ?_
 ·refine bch h5 (fun a h5 => ?_) (fun a h5 => ?_)
  ·refine tp a (tp a (tp a (tp a (tp a (to (spt (.b true) a) ?_)))));obtain rfl := sIn h5;refine aD (aM rfl ⟨rfl, trivial⟩ rfl)
  ·refine tkl 0 a rfl rfl kB rfl aT (tkl 0 a rfl rfl lV rfl aT (tk a (scm rfl rfl rfl) (to (spf (.b (decide (e.To < e.From))) a) ?_)));obtain rfl := sIn h5;refine aD (aM rfl ⟨rfl, trivial⟩ rfl)
 ·refine tm (.b b4) ?_;obtain ⟨b6, h7, h⟩ := bns h;refine aW 5 [2] 23 b6 ?_ ?_
  ·refine bch h7 (fun c h7 => ?_) (fun c h7 => ?_)
   ·refine tp c (tp c (tp c (tp c (to (spt (.b true) c) ?_))));obtain rfl := sIn h7;refine aD (aM rfl ⟨rfl, trivial⟩ rfl)
   ·refine tkl 0 c rfl rfl kB rfl aT ?_;obtain ⟨g, i, h7⟩ := bns h7;refine tk c (scr Try.call47 (dY _ _ _ i)) (tk c (sn rfl) (to (spf (.b (!g)) c) ?_));obtain rfl := sIn h7;refine aD (aM rfl ⟨rfl, trivial⟩ rfl)
  ·refine tm (.b b6) ?_;obtain ⟨b8, h9, h⟩ := bns h;refine aW 5 [] 29 b8 ?_ ?_
   ·refine bch h9 (fun d h9 => ?_) (fun d h9 => ?_)
    ·refine tp d (tp d (tp d (tp d (to (spt (.b true) d) ?_))));obtain rfl := sIn h9;refine aD (aM rfl trivial rfl)
    ·refine tkl 0 d rfl rfl lV rfl aT ?_;obtain ⟨j, k, h9⟩ := bns h9;refine tk d (scr Try.call47 (dY _ _ _ k)) (tk d (sn rfl) (to (spf (.b (!j)) d) ?_));obtain rfl := sIn h9;refine aD (aM rfl trivial rfl)
   ·refine ta (.b b8) (aD ?_);obtain rfl := sIn h;refine bP (bG (bK (l := [3]) ⟨rfl, trivial⟩)) ?_;exact aU ⟨rfl, _, .one _, rfl, rfl⟩

theorem uS (c : aH) (a : List aJ) {r : Bool} (h : lS c a = some r) : Fn Try.prog 104 [.agg (aI c), .d (.sl 3 (a.map aF))] (.b r) := by
 unfold lS at h;refine Fn.of_tr Try.func104 rfl (rs := [.tmp 4]) Try.results104 Try.ntmps104 (Nat.le_of_ble_eq_true rfl) ?_;refine aE (aC ?_);refine aZ rfl (eM (v := .agg (aI c)) (aG rfl) rfl rfl rfl) ?_;rintro _ ⟨b1, rfl⟩;refine ta (.b false) (aD (aE (aC (tm (.d (.sl 3 (a.map aF))) (to (sle rfl dJ.of) (to (scm rfl rfl rfl) (tm (.b (decide ((a.length : Int) ≤ 8))) ?_)))))));obtain ⟨b2, h3, h⟩ := bns h;refine aW 5 [] 13 b2 ?_ ?_
 ·refine bch h3 (fun c4 h3 => ?_) (fun c4 h3 => ?_)
  ·refine tk c4 (sm (.d (.sl 3 (a.map aF)))) (tk c4 (yL (aG rfl) rfl rfl) ?_);obtain ⟨r6, h7, h3⟩ := bns h3;refine tk c4 (sc Try.call82 (iV _ _ 126 [.cp [.lit (.int .i64 c.Players), .lit (.int .i64 c.Counts), .sl 5 (c.Reports.map aA), .sl 3 (c.Bans.map aF), .sl 3 (c.Frozen.map aF)]] Try.call126 (fun _ _ h3 => yK _ _ h3) h7) (.cons (.same _) (.cons (aCv (.cons (nQ 0 rfl rfl (dvc (.same _) (dvc (.same _) (dvc (.same _) (dvc (.same _) (dvc (.same _) dvn)))))) .nil)) .nil))) (tk c4 (sn rfl) (to (spt (.b (!r6)) c4) ?_));obtain rfl := sIn h3;refine aD (aM rfl trivial rfl)
  ·refine tp c4 (tp c4 (tp c4 (tp c4 (to (spf (.b false) c4) ?_))));obtain rfl := sIn h3;refine aD (aM rfl trivial rfl)
 ·refine ta (.b b2) (aD ?_);obtain rfl := sIn h;refine bP (bG (bK (l := [4]) ⟨rfl, trivial⟩)) ?_;exact aU ⟨rfl, _, .one _, rfl, rfl⟩

theorem zD (c : aJ) (a : aJ) {r : Bool} (h : mQ c a = some r) : Fn Try.prog 105 [.agg (aF c), .cp (aF a)] (.b r) := by
 unfold mQ at h;refine Fn.of_tr Try.func105 rfl (rs := [.tmp 3]) Try.results105 Try.ntmps105 (Nat.le_of_ble_eq_true rfl) ?_;refine aE (aC ?_);refine aZ rfl (eM (v := .agg (aF c)) (aG rfl) rfl rfl rfl) ?_;rintro _ ⟨b1, rfl⟩;refine ta (.b false) (aD (aE (aC (to (sfc [.lit (.int .i64 a.Player)] rfl lU) (to (slc rfl aT) (tfl 0 rfl rfl lU rfl aT (to (scm rfl rfl rfl) (tm (.b (decide (a.Player = c.Player))) ?_))))))));obtain ⟨b2, h3, h⟩ := bns h;refine aW 6 [1, 2] 15 b2 ?_ ?_
 ·refine bch h3 (fun c7 h3 => ?_) (fun c7 h3 => ?_)
  ·refine tk c7 (sfc [.lit (.int .i64 a.From)] rfl kB) (tk c7 (slc rfl aT) (tkl 0 c7 rfl rfl lV rfl aT (tk c7 (scm rfl rfl rfl) (to (spt (.b (decide (a.From ≤ c.To))) c7) ?_))));obtain rfl := sIn h3;refine aD (aM rfl ⟨rfl, rfl, trivial⟩ rfl)
  ·refine tp c7 (tp c7 (tp c7 (tp c7 (tp c7 (to (spf (.b false) c7) ?_)))));obtain rfl := sIn h3;refine aD (aM rfl ⟨rfl, rfl, trivial⟩ rfl)
 ·refine tm (.b b2) ?_;obtain ⟨b4, h5, h⟩ := bns h;refine aW 6 [] 22 b4 ?_ ?_
  ·refine bch h5 (fun c6 h5 => ?_) (fun c6 h5 => ?_)
   ·refine tkl 0 c6 rfl rfl kB rfl aT (tk c6 (sfc [.lit (.int .i64 a.To)] rfl lV) (tk c6 (slc rfl aT) (tk c6 (scm rfl rfl rfl) (to (spt (.b (decide (c.From ≤ a.To))) c6) ?_))));obtain rfl := sIn h5;refine aD (aM rfl trivial rfl)
   ·refine tp c6 (tp c6 (tp c6 (tp c6 (tp c6 (to (spf (.b false) c6) ?_)))));obtain rfl := sIn h5;refine aD (aM rfl trivial rfl)
  ·refine ta (.b b4) (aD ?_);obtain rfl := sIn h;refine bP (bG (bK (l := [3]) ⟨rfl, trivial⟩)) ?_;exact aU ⟨rfl, _, .one _, rfl, rfl⟩

theorem aAy (d : aH) {r : Bool} (h : nX d = some r) : Fn Try.prog 89 [.agg (aI d)] (.b r) := by
 unfold nX at h;refine Fn.of_tr Try.func89 rfl (rs := [.tmp 2]) Try.results89 Try.ntmps89 (Nat.le_of_ble_eq_true rfl) ?_;refine aE (aC ?_);refine aZ rfl (eM (v := .agg (aI d)) (aG rfl) rfl rfl rfl) ?_;rintro _ ⟨b1, rfl⟩;refine ta (.b false) (aD (aE (aE (aC (tfl 0 rfl rfl iJ rfl aT ?_)))));obtain ⟨r2, h3, h⟩ := bns h;refine to (scr Try.call47 (dY _ _ _ h3)) (to (sn rfl) (tm (.b (!r2)) ?_));obtain ⟨b4, h5, h⟩ := bns h;refine aW 5 [1] 16 b4 ?_ ?_
 ·refine bch h5 (fun f h5 => ?_) (fun f h5 => ?_)
  ·refine tp f (tp f (tp f (tp f (to (spt (.b true) f) ?_))));obtain rfl := sIn h5;refine aD (aM rfl ⟨rfl, trivial⟩ rfl)
  ·refine tkl 0 f rfl rfl uJ rfl aT ?_;obtain ⟨z, A, h5⟩ := bns h5;refine tk f (scr Try.call47 (dY _ _ _ A)) (tk f (sn rfl) (to (spf (.b (!z)) f) ?_));obtain rfl := sIn h5;refine aD (aM rfl ⟨rfl, trivial⟩ rfl)
 ·refine tm (.b b4) ?_;obtain ⟨b6, h7, h⟩ := bns h;refine aW 5 [1] 22 b6 ?_ ?_
  ·refine bch h7 (fun g h7 => ?_) (fun g h7 => ?_)
   ·refine tp g (tp g (tp g (tp g (to (spt (.b true) g) ?_))));obtain rfl := sIn h7;refine aD (aM rfl ⟨rfl, trivial⟩ rfl)
   ·refine tkl 0 g rfl rfl bO rfl cZ (tk g (sle rfl bA.of) (tk g (scm rfl rfl rfl) (to (spf (.b (decide (40 < (d.Reports.length : Int)))) g) ?_)));obtain rfl := sIn h7;refine aD (aM rfl ⟨rfl, trivial⟩ rfl)
  ·refine aD ?_;refine tih h (fun c8 h => ?_) (fun c8 h => ?_)
   ·refine aE (aC (ta (.b false) (aD ?_)));obtain rfl := sIn h;refine bP (bG (bK (l := [2]) ⟨rfl, trivial⟩)) ?_;exact aU ⟨rfl, _, .one _, rfl, rfl⟩
   ·refine aS (aE (aE (aC (tfl 0 rfl rfl bO rfl cZ (to (sle rfl bA.of) (tm (.i 0) (aD (bB ?_))))))));refine bN (S := Int) [1, 24, 25] (fun s9 => [(26, .i s9)]) (fun s9 => [.box b1 0 (aI d)]) (fun k s9 => hJ d.Reports (d.Reports.length : Int) d k s9) (fun _ => rfl) (0) h (aN [0] rfl rfl (aK rfl (aO ⟨rfl, rfl, rfl, trivial⟩))) ?_;rintro a1 s h;simp only [hJ] at h;refine aE (aC (to (scm rfl rfl rfl) (aD (aE ?_))));refine tih h (fun B h => ?_) (fun B h => ?_)
    ·refine aS (aE (bB (aE (aC ?_))));obtain ⟨w, C, h⟩ := bns h;refine to (six rfl rfl bA.of (aX aA C)) (to (sK (aA w) rfl cS) ?_);refine aZ rfl (dK (zs := [.lit (.int .i64 0), .lit (.int .i64 0), .lit (.int .i64 0), .lit (.int .i64 0), .lit (.bool false)]) (aG rfl) Try.zeroValue42 rfl rfl) ?_;rintro _ ⟨a2, rfl⟩;refine to (sst 1 rfl rfl Try.sizeOf42 (aA w)) (aD (aE (aC (tfl 1 rfl rfl lC rfl aT ?_))));obtain ⟨E, F, h⟩ := bns h;refine to (scr Try.call47 (dY _ _ _ F)) (to (sn rfl) (tm (.b (!E)) ?_));obtain ⟨x, n, h⟩ := bns h;refine aW 8 [1, 4, 24, 25, 26] 42 x ?_ ?_
     ·refine bch n (fun a n => ?_) (fun a n => ?_)
      ·refine tp a (tp a (tp a (tp a (tp a (tp a (tp a (to (spt (.b true) a) ?_)))))));obtain rfl := sIn n;refine aD (aM rfl ⟨rfl, rfl, rfl, rfl, rfl, trivial⟩ rfl)
      ·refine tkl 1 a rfl rfl qR rfl aT (tkl 0 a rfl rfl iJ rfl aT (tk a (sar rfl rfl rfl) ?_));obtain ⟨G, H, n⟩ := bns n;refine tk a (scr Try.call47 (dY _ _ _ H)) (tk a (sn rfl) (to (spf (.b (!G)) a) ?_));obtain rfl := sIn n;refine aD (aM rfl ⟨rfl, rfl, rfl, rfl, rfl, trivial⟩ rfl)
     ·refine tm (.b x) ?_;obtain ⟨y, o, h⟩ := bns h;refine aW 5 [1, 4, 24, 25, 26] 48 y ?_ ?_
      ·refine bch o (fun j o => ?_) (fun j o => ?_)
       ·refine tp j (tp j (tp j (tp j (to (spt (.b true) j) ?_))));obtain rfl := sIn o;refine aD (aM rfl ⟨rfl, rfl, rfl, rfl, rfl, trivial⟩ rfl)
       ·refine tkl 1 j rfl rfl nC rfl aT ?_;obtain ⟨I, J, o⟩ := bns o;refine tk j (scr Try.call47 (dY _ _ _ J)) (tk j (sn rfl) (to (spf (.b (!I)) j) ?_));obtain rfl := sIn o;refine aD (aM rfl ⟨rfl, rfl, rfl, rfl, rfl, trivial⟩ rfl)
      ·refine tm (.b y) ?_;obtain ⟨K, p, h⟩ := bns h;refine aW 5 [1, 24, 25, 26] 54 K ?_ ?_
       ·refine bch p (fun m p => ?_) (fun m p => ?_)
        ·refine tp m (tp m (tp m (tp m (to (spt (.b true) m) ?_))));obtain rfl := sIn p;refine aD (aM rfl ⟨rfl, rfl, rfl, rfl, trivial⟩ rfl)
        ·refine tkl 1 m rfl rfl sB rfl aT ?_;obtain ⟨L, M, p⟩ := bns p;refine tk m (scr Try.call47 (dY _ _ _ M)) (tk m (sn rfl) (to (spf (.b (!L)) m) ?_));obtain rfl := sIn p;refine aD (aM rfl ⟨rfl, rfl, rfl, rfl, trivial⟩ rfl)
       ·refine aD ?_;refine tih h (fun N h => ?_) (fun N h => ?_)
        ·refine aE (aC (ta (.b false) (aD ?_)));obtain rfl := sIn h;refine bP (bG (bK (l := [2]) ⟨rfl, trivial⟩)) ?_;exact aU ⟨rfl, _, .one _, rfl, rfl⟩
        ·refine dG ?_;refine aC (to (sar rfl rfl rfl) (tm (.i (w64 (s + 1))) (aD ?_)));exact ⟨(w64 (s + 1)), h, aN [0] rfl rfl (aK rfl (aO ⟨rfl, rfl, rfl, trivial⟩))⟩
    ·refine bX ?_;refine .inl ⟨rfl, ?_⟩;simp only [qX] at h;refine aE (aE (aC (to (sla 0 (aI d) rfl rfl cK) (tfl 0 rfl rfl iZ rfl eZ ?_))));obtain ⟨O, P, h⟩ := bns h;refine to (scr Try.call104 (uS _ _ P)) (to (sn rfl) (tm (.b (!O)) ?_));obtain ⟨Q, q, h⟩ := bns h;refine aW 6 [1] 67 Q ?_ ?_
     ·refine bch q (fun e q => ?_) (fun e q => ?_)
      ·refine tp e (tp e (tp e (tp e (tp e (to (spt (.b true) e) ?_)))));obtain rfl := sIn q;refine aD (aM rfl ⟨rfl, trivial⟩ rfl)
      ·refine tk e (sla 0 (aI d) rfl rfl cK) (tkl 0 e rfl rfl gN rfl eZ ?_);obtain ⟨T, U, q⟩ := bns q;refine tk e (scr Try.call104 (uS _ _ U)) (tk e (sn rfl) (to (spf (.b (!T)) e) ?_));obtain rfl := sIn q;refine aD (aM rfl ⟨rfl, trivial⟩ rfl)
     ·refine aD ?_;refine tih h (fun V h => ?_) (fun V h => ?_)
      ·refine aE (aC (ta (.b false) (aD ?_)));obtain rfl := sIn h;refine bP (bG (bK (l := [2]) ⟨rfl, trivial⟩)) ?_;exact aU ⟨rfl, _, .one _, rfl, rfl⟩
      ·refine aS (aE (aE (aC (tfl 0 rfl rfl gN rfl eZ (to (sle rfl dJ.of) (tm (.i 0) (aD (bB ?_))))))));refine bN (S := Int) [1, 69, 70] (fun u => [(71, .i u)]) (fun u => [.box b1 0 (aI d)]) (fun k u => hO d.Frozen (d.Frozen.length : Int) d k u) (fun _ => rfl) (0) h (aN [0] rfl rfl (aK rfl (aO ⟨rfl, rfl, rfl, trivial⟩))) ?_;rintro a3 c h;simp only [hO] at h;refine aE (aC (to (scm rfl rfl rfl) (aD (aE ?_))));refine tih h (fun W h => ?_) (fun W h => ?_)
       ·refine aS (aE (bB (aE (aC (tm (.i c) ?_)))));obtain ⟨t, X, h⟩ := bns h;refine to (six rfl rfl dJ.of (aX aF X)) (to (sK (aF t) rfl rC) ?_);refine aZ rfl (dK (zs := [.lit (.int .i64 0), .lit (.int .i64 0), .lit (.int .i64 0)]) (aG rfl) Try.zeroValue66 rfl rfl) ?_;rintro _ ⟨a4, rfl⟩;refine ta (.i c) (to (sst 1 rfl rfl Try.sizeOf66 (aF t)) (aD (aE (aC (tfl 0 rfl rfl gN rfl eZ (tm (.i c) ?_))))));obtain ⟨a5, Y, h⟩ := bns h;refine to (kM (aG rfl) dJ.of rfl rfl rfl (nM aF Y)) ?_;refine to (yL (aG rfl) rfl rfl) ?_;obtain ⟨a6, Z, h⟩ := bns h;refine to (sc Try.call82 (iV _ _ 105 [.cp [.lit (.int .i64 t.Player), .lit (.int .i64 t.From), .lit (.int .i64 t.To)]] Try.call105 (fun _ _ h => zD _ _ h) Z) (.cons (.same _) (.cons (aCv (.cons (nQ 1 rfl rfl (dvc (.same _) (dvc (.same _) (dvc (.same _) dvn)))) .nil)) .nil))) (aD ?_);refine tih h (fun a0 h => ?_) (fun a0 h => ?_)
        ·refine aE (aC (ta (.b false) (aD ?_)));obtain rfl := sIn h;refine bP (bG (bK (l := [2]) ⟨rfl, trivial⟩)) ?_;exact aU ⟨rfl, _, .one _, rfl, rfl⟩
        ·refine dG ?_;refine aC (to (sar rfl rfl rfl) (tm (.i (w64 (c + 1))) (aD ?_)));exact ⟨(w64 (c + 1)), h, aN [0] rfl rfl (aK rfl (aO ⟨rfl, rfl, rfl, trivial⟩))⟩
       ·refine bX ?_;refine .inl ⟨rfl, ?_⟩;simp only [qY] at h;refine aE (aC (ta (.b true) (aD ?_)));obtain rfl := sIn h;refine bP (bG (bK (l := [2]) ⟨rfl, trivial⟩)) ?_;exact aU ⟨rfl, _, .one _, rfl, rfl⟩

theorem nY (a : List aB) {r : (List aB)} (h : dZ a = some r) : eS Try.prog 91 [.d (.sl 5 (a.map aA))] [] (fun r' o' => ∃ (w0 : Value), r' = .d (.lit w0) ∧ o' = [.arr w0 42 5 (r.map aA)]) := by
 unfold dZ at h;refine kI Try.func91 rfl (rs := [.tmp 2]) Try.results91 Try.ntmps91 (Nat.le_of_ble_eq_true rfl) ?_;refine aE (aC (to (hY 42 5 (.inl rfl) (aG rfl)) ?_));refine aD (aE (aE (aC (tm (.d (.sl 5 (a.map aA))) ?_))));refine aZ rfl (aBc (aG rfl) rfl rfl Try.underlying22) ?_;rintro _ ⟨b2, h3, rfl⟩;refine aD ?_;refine aGg rfl (fun c4 => ?_) (fun c4 => ?_)
 ·obtain rfl := aAt (h3 c4)
  simp [app] at h
  subst h;refine aE (aC (to (hY 42 5 (.inl rfl) (aG rfl)) ?_));refine aD ?_;refine bP (aN [1, 0] rfl rfl (le_refl _)) ?_;exact aU ⟨rfl, _, [.arr (.slice none 0 0) 42 5 (([] : List aB).map aA)], [.arr (.slice none 0 0) 42 5 (([] : List aB).map aA)], _, .one (.tmp 2 (v := .d (.lit (.slice none 0 0))) rfl), .refl _, .same _, (.slice none 0 0), rfl, rfl⟩
 ·refine aS (aE (aC ?_));refine aZ rfl (aCl (aG rfl) bA rfl rfl (rows := (([] : List aB)).map aA) rfl (bZ (f := aA) fun _ => rfl) rfl (by decide)) ?_;rintro _ ⟨v5, rfl⟩;refine tm (.d (.sl 5 (a.map aA))) ?_;obtain ⟨x6, h7, h⟩ := bns h;refine aZ rfl (lP (i := 1) (aG rfl) bA rfl rfl rfl (fun _ => rfl) h7 rfl) ?_;rintro _ ⟨v8, rfl⟩;refine ta (.d (.lit v8)) (aD ?_);obtain rfl := sIn h;refine bP (aN [1, 0] rfl rfl (le_refl _)) ?_;exact aU ⟨rfl, _, [.arr v8 42 5 (x6.map aA)], [.arr (.slice none 0 0) 42 5 (([] : List aB).map aA)], _, .one (.tmp 2 (v := .d (.lit v8)) rfl), .refl _, .same _, v8, rfl, rfl⟩

theorem jJ (s : List aB) (g : Int) (x : Int) (q : aB → aB → Option Int) {r : (List aB)} {a : Value} (j : Nat) (o : List AV) (A : ∀ args w, (callFunc j args).run Try.prog w = .ok (.enter j args) w) (B : ∀ (x0 : aB) (x1 : aB) r, q x0 x1 = some r → Fn Try.prog j ([.agg (aA x0), .agg (aA x1)] ++ o) (.i r)) (h : cL s g x q = some r) : eS Try.prog 127 [.d (.lit a), .i g, .i x, .fn j o] [.arr a 42 5 (s.map aA)] (fun r' o' => r' = .tup [] ∧ o' = [.arr a 42 5 (r.map aA)]) := by
 unfold cL at h;refine iU Try.func127 rfl (rs := []) Try.results127 Try.ntmps127 (Nat.le_of_ble_eq_true rfl) ?_;refine aE (aC (tm (.i g) (to (sar rfl rfl rfl) (ta (.i (w64 (g + 1))) (aD (bB ?_))))));refine bN (S := Int × (List aB)) [1, 2, 3] (fun s1 => [(0, .d (.lit a)), (8, .i s1.1)]) (fun s1 => [.arr a 42 5 (s1.2.map aA)]) (fun k s1 => bJ g x q k s1.1 s1.2) (fun _ => rfl) (w64 (g + 1), s) h (aN [0] rfl rfl (aK rfl (aK rfl (aO ⟨rfl, rfl, rfl, trivial⟩)))) ?_;rintro k2 ⟨n, t⟩ h;simp only [bJ] at h;refine aE (aE (aC (tm (.i n) (tm (.i x) (to (scm rfl rfl rfl) (aD ?_))))));refine tih h (fun c3 h => ?_) (fun c3 h => ?_)
 ·refine aS (aE (bB (aE (aC (tm (.i n) (ta (.i n) (aD ?_)))))));refine yZ ?_;refine bN (S := Int × (List aB)) [1, 2, 3, 8] (fun s4 => [(0, .d (.lit a)), (9, .i s4.1)]) (fun s4 => [.arr a 42 5 (s4.2.map aA)]) (fun k s4 => cA (bJ g x q k2) g x q n k s4.1 s4.2) (fun _ => rfl) (n, t) h (aN [0] rfl rfl (aK rfl (aK rfl (aO ⟨rfl, rfl, rfl, rfl, trivial⟩)))) ?_;rintro k5 ⟨c, f⟩ h;simp only [cA] at h;refine aE (aE ?_);obtain ⟨b6, h7, h⟩ := bns h;refine fI mix 17 [0, 1, 2, 3, 8, 9] [(34, .b b6)] ?_ ?_
  ·refine bch h7 (fun c8 h7 => ?_) (fun c8 h7 => ?_)
   ·obtain ⟨x9, C, h7⟩ := bns h7;obtain ⟨E, F, h7⟩ := bns h7;obtain ⟨z, K, h7⟩ := bns h7;obtain rfl := sIn h7;refine ⟨[(18, 0, .i c), (19, 1, .i g), (20, 2, .b (decide (g < c))), (21, 3, .b (decide (g < c))), (22, 4, .fn j o), (23, 5, .d (.lit a)), (24, 6, .i c), (25, 7, .ep a 5 c.toNat 0), (26, 8, .agg (aA x9)), (27, 9, .d (.lit a)), (28, 10, .i c), (29, 11, .i (w64 (c - 1))), (30, 12, .ep a 5 (w64 (c - 1)).toNat 0), (31, 13, .agg (aA E)), (32, 14, .i z), (33, 15, .b (decide (z < 0))), (34, 16, .b (decide (z < 0)))], ?_, ?_⟩
    · exact dok [([], []), ([], []), ([0, 1], []), ([2], []), ([3], []), ([3], []), ([3], []), ([3, 5, 6], []), ([3, 7], []), ([3], []), ([3], []), ([3, 10], []), ([3, 9, 11], []), ([3, 12], []), ([3, 4, 8, 13], []), ([3, 14], []), ([3, 15], [])] ⟨go (zm (.i c)),
      go (zm (.i g)),
      go (zcm rfl rfl rfl),
      go (zm (.b (decide (g < c)))),
      gt c8 (zm (.fn j o)),
      gt c8 (zm (.d (.lit a))),
      gt c8 (zm (.i c)),
      gt c8 (zia 0 rfl rfl rfl bA.of (aX aA C)),
      gt c8 fun S hS => cF (aG rfl) (aL hS rfl) (l := 0) rfl (cY aA C) cS (es := (aA x9)) rfl rfl,
      gt c8 (zm (.d (.lit a))),
      gt c8 (zm (.i c)),
      gt c8 (zar rfl rfl rfl),
      gt c8 (zia 0 rfl rfl rfl bA.of (aX aA F)),
      gt c8 fun S hS => cF (aG rfl) (aL hS rfl) (l := 0) rfl (cY aA F) cS (es := (aA E)) rfl rfl,
      gt c8 fun S hS => jH (aG rfl) (.clo _ _ _ _ A (aCw hS rfl)) (uG (ev2 (aL hS rfl) (ev2 (aL hS rfl) evn))) rfl (BVs.refl _ _) (B _ _ _  K) rfl,
      gt c8 (zcm rfl rfl rfl),
      go (zpt (.b (decide (z < 0))) c8), trivial⟩
    · exact cW (aK rfl (aO ⟨rfl, rfl, rfl, rfl, rfl, rfl, trivial⟩))
   ·obtain rfl := sIn h7;refine ⟨[(18, 0, .i c), (19, 1, .i g), (20, 2, .b (decide (g < c))), (21, 3, .b (decide (g < c))), (22, 4, .tup []), (23, 5, .tup []), (24, 6, .tup []), (25, 7, .tup []), (26, 8, .tup []), (27, 9, .tup []), (28, 10, .tup []), (29, 11, .tup []), (30, 12, .tup []), (31, 13, .tup []), (32, 14, .tup []), (33, 15, .tup []), (34, 16, .b false)], ?_, ?_⟩
    · exact dok [([], []), ([], []), ([0, 1], []), ([2], []), ([3], []), ([3], []), ([3], []), ([3, 5, 6], []), ([3, 7], []), ([3], []), ([3], []), ([3, 10], []), ([3, 9, 11], []), ([3, 12], []), ([3, 4, 8, 13], []), ([3, 14], []), ([3, 15], [])] ⟨go (zm (.i c)),
      go (zm (.i g)),
      go (zcm rfl rfl rfl),
      go (zm (.b (decide (g < c)))),
      gp c8,
      gp c8,
      gp c8,
      gp c8,
      gp c8,
      gp c8,
      gp c8,
      gp c8,
      gp c8,
      gp c8,
      gp c8,
      gp c8,
      go (zpf (.b false) c8), trivial⟩
    · exact cW (aK rfl (aO ⟨rfl, rfl, rfl, rfl, rfl, rfl, trivial⟩))
  ·refine aD ?_;refine tih h (fun L h => ?_) (fun L h => ?_)
   ·refine aS (aE (bB ?_));obtain ⟨u, G, h⟩ := bns h;obtain ⟨y, H, h⟩ := bns h;obtain ⟨M, I, h⟩ := bns h;refine jC mix 16 [0, 1, 2, 3, 8, 9] (fun e => [(39, .d (.lit a)), (41, .i (w64 (c - 1))), (50, .agg (aA y))]) (fun e => [.arr a 42 5 ((f.set c.toNat u).map aA)]) ?_ ?_
    ·refine ⟨0, fun e => [(37, 0, .d (.lit a)), (38, 1, .i c), (39, 2, .d (.lit a)), (40, 3, .i c), (41, 4, .i (w64 (c - 1))), (42, 5, .d (.lit a)), (43, 6, .i c), (44, 7, .i (w64 (c - 1))), (45, 8, .ep a 5 (w64 (c - 1)).toNat 0), (46, 9, .agg (aA u)), (47, 10, .d (.lit a)), (48, 11, .i c), (49, 12, .ep a 5 c.toNat 0), (50, 13, .agg (aA y)), (51, 14, .ep a 5 c.toNat 0)], fun e => [([(15, .arr a 42 5 ((f.set c.toNat u).map aA))], .arr a 42 5 (f.map aA))], ?_, ?_⟩
     · exact ⟨by kernel_rfl, by kernel_rfl, by kernel_rfl, fun _ => by kernel_rfl, fun _ => by kernel_rfl, fun _ => by kernel_rfl, fun _ => rfl, [([], [15]), ([], [15]), ([], []), ([], []), ([3], []), ([], [15]), ([], [15]), ([6], [15]), ([5, 7], [15]), ([8], [15]), ([], [15]), ([], [15]), ([10, 11], [15]), ([12], [15]), ([0, 1], [15]), ([9, 14], [])], by kernel_rfl, ⟨fun e S hw hi hS => aQ (X := e) rfl (hw e) rfl (aY rfl (bW (v := .d (.lit a)) (aG rfl) (aL hS rfl) rfl)),
      fun e S hw hi hS => aQ (X := e) rfl (hw e) rfl (aY rfl (bW (v := .i c) (aG rfl) (aL hS rfl) rfl)),
      fun e S hw hi hS => aQ (X := e) rfl (hw e) rfl (aY rfl (bW (v := .d (.lit a)) (aG rfl) (aL hS rfl) rfl)),
      fun e S hw hi hS => aQ (X := e) rfl (hw e) rfl (aY rfl (bW (v := .i c) (aG rfl) (aL hS rfl) rfl)),
      fun e S hw hi hS => aQ (X := e) rfl (hw e) rfl (aY rfl (jP (aG rfl) (aL hS rfl) rfl rfl)),
      fun e S hw hi hS => aQ (X := e) rfl (hw e) rfl (aY rfl (bW (v := .d (.lit a)) (aG rfl) (aL hS rfl) rfl)),
      fun e S hw hi hS => aQ (X := e) rfl (hw e) rfl (aY rfl (bW (v := .i c) (aG rfl) (aL hS rfl) rfl)),
      fun e S hw hi hS => aQ (X := e) rfl (hw e) rfl (aY rfl (jP (aG rfl) (aL hS rfl) rfl rfl)),
      fun e S hw hi hS => aQ (X := e) rfl (hw e) rfl (aY rfl (cM (m := 0) (aG rfl) (aL hS rfl) (og hS rfl rfl) (aL hS rfl) bA.of (aX aA G))),
      fun e S hw hi hS => aQ (X := e) rfl (hw e) rfl (aY rfl (cF (aG rfl) (aL hS rfl) (l := 0) (og hS rfl rfl) (cY aA G) cS (es := (aA u)) rfl rfl)),
      fun e S hw hi hS => aQ (X := e) rfl (hw e) rfl (aY rfl (bW (v := .d (.lit a)) (aG rfl) (aL hS rfl) rfl)),
      fun e S hw hi hS => aQ (X := e) rfl (hw e) rfl (aY rfl (bW (v := .i c) (aG rfl) (aL hS rfl) rfl)),
      fun e S hw hi hS => aQ (X := e) rfl (hw e) rfl (aY rfl (cM (m := 0) (aG rfl) (aL hS rfl) (og hS rfl rfl) (aL hS rfl) bA.of (aX aA H))),
      fun e S hw hi hS => aQ (X := e) rfl (hw e) rfl (aY rfl (cF (aG rfl) (aL hS rfl) (l := 0) (og hS rfl rfl) (cY aA H) cS (es := (aA y)) rfl rfl)),
      fun e S hw hi hS => aQ (X := e) rfl (hw e) rfl (aY rfl (cM (m := 0) (aG rfl) (aL hS rfl) (og hS rfl rfl) (aL hS rfl) bA.of (aX aA I))),
      fun e S hw hi hS => oE (X := e) hS rfl rfl rfl (p := 0) rfl rfl (aY rfl (iY (l := 0) (aL hS rfl) (og hS rfl rfl) (cY aA I) (aL hS rfl) rfl rfl Try.sizeOf42 rfl (aG rfl) (Nat.le_of_ble_eq_true rfl) (rows' := ((f.set c.toNat u)).map aA) (mJ _ _ _ _ rfl))), trivial⟩⟩
     · exact fun e => cW (aK rfl (aK rfl (aK rfl (aO ⟨rfl, rfl, rfl, rfl, rfl, rfl, trivial⟩))))
    ·intro e;obtain ⟨N, J, h⟩ := bns h;refine to (cM (m := 0) (aG rfl) rfl rfl rfl bA.of (aX aA J)) ?_;refine to (iY (l := 0) rfl rfl (cY aA J) rfl rfl rfl Try.sizeOf42 rfl (aG rfl) (Nat.le_of_ble_eq_true rfl) (rows' := (((f.set c.toNat u).set (w64 (c - 1)).toNat y)).map aA) (mJ _ _ _ _ rfl)) ?_;refine dE ?_;refine aC (tm (.i c) (to (sar rfl rfl rfl) (ta (.i (w64 (c - 1))) (aD ?_))));exact ⟨(w64 (c - 1), ((f.set c.toNat u).set (w64 (c - 1)).toNat y)), h, aN [0] rfl rfl (aK rfl (aK rfl (aO ⟨rfl, rfl, rfl, rfl, trivial⟩)))⟩
   ·refine bX ?_;refine .inl ⟨rfl, ?_⟩;simp only [eC] at h;simp only [eB] at h;refine aC (tm (.i n) (to (sar rfl rfl rfl) (ta (.i (w64 (n + 1))) (aD ?_))));exact ⟨(w64 (n + 1), f), h, aN [0] rfl rfl (aK rfl (aK rfl (aO ⟨rfl, rfl, rfl, trivial⟩)))⟩
 ·refine bX ?_;refine .inl ⟨rfl, ?_⟩;simp only [eA] at h;obtain rfl := sIn h;exact ⟨_, [.arr a 42 5 (t.map aA)], [], _, .none, .refl _, .same _, rfl, rfl⟩

theorem hZ (j : List aB) (e : Int) (f : Int) (o : Int) (q : aB → aB → Option Int) {r : (List aB)} {a : Value} (g : Nat) (n : List AV) (u : ∀ args w, (callFunc g args).run Try.prog w = .ok (.enter g args) w) (x : ∀ (x0 : aB) (x1 : aB) r, q x0 x1 = some r → Fn Try.prog g ([.agg (aA x0), .agg (aA x1)] ++ n) (.i r)) (h : cV j e f o q = some r) : eS Try.prog 141 [.d (.lit a), .i e, .i f, .i o, .fn g n] [.arr a 42 5 (j.map aA)] (fun r' o' => r' = .tup [] ∧ o' = [.arr a 42 5 (r.map aA)]) := by
 unfold cV at h;refine iU Try.func141 rfl (rs := []) Try.results141 Try.ntmps141 (Nat.le_of_ble_eq_true rfl) ?_;refine aE (aC (ta (.i 0) (aD (bB ?_))));refine bN (S := Int × (List aB)) [1, 2, 3] (fun s1 => [(0, .d (.lit a)), (10, .i s1.1)]) (fun s1 => [.arr a 42 5 (s1.2.map aA)]) (fun k s1 => cO e f o k s1.1 s1.2) (fun _ => rfl) (0, j) h (aN [0] rfl rfl (aK rfl (aK rfl (aO ⟨rfl, rfl, rfl, trivial⟩)))) ?_;rintro k2 ⟨b, c⟩ h;simp only [cO] at h;refine aE (aE (aC (tm (.i b) (tm (.i o) (to (scm rfl rfl rfl) (aD ?_))))));refine tih h (fun c3 h => ?_) (fun c3 h => ?_)
 ·refine aS (aE (bB ?_));obtain ⟨x5, h6, h⟩ := bns h;obtain ⟨x7, h8, h⟩ := bns h;obtain ⟨x9, s, h⟩ := bns h;refine jC mix 22 [0, 1, 2, 3, 10] (fun X4 => [(20, .d (.lit a)), (23, .i (w64 (f + b))), (35, .agg (aA x7))]) (fun X4 => [.arr a 42 5 ((c.set (w64 (e + b)).toNat x5).map aA)]) ?_ ?_
  ·refine ⟨0, fun X4 => [(16, 0, .d (.lit a)), (17, 1, .i e), (18, 2, .i b), (19, 3, .i (w64 (e + b))), (20, 4, .d (.lit a)), (21, 5, .i f), (22, 6, .i b), (23, 7, .i (w64 (f + b))), (24, 8, .d (.lit a)), (25, 9, .i f), (26, 10, .i b), (27, 11, .i (w64 (f + b))), (28, 12, .ep a 5 (w64 (f + b)).toNat 0), (29, 13, .agg (aA x5)), (30, 14, .d (.lit a)), (31, 15, .i e), (32, 16, .i b), (33, 17, .i (w64 (e + b))), (34, 18, .ep a 5 (w64 (e + b)).toNat 0), (35, 19, .agg (aA x7)), (36, 20, .ep a 5 (w64 (e + b)).toNat 0)], fun X4 => [([(21, .arr a 42 5 ((c.set (w64 (e + b)).toNat x5).map aA))], .arr a 42 5 (c.map aA))], ?_, ?_⟩
   · exact ⟨by kernel_rfl, by kernel_rfl, by kernel_rfl, fun _ => by kernel_rfl, fun _ => by kernel_rfl, fun _ => by kernel_rfl, fun _ => rfl, [([], [21]), ([], [21]), ([], [21]), ([1, 2], [21]), ([], []), ([], []), ([], []), ([5, 6], []), ([], [21]), ([], [21]), ([], [21]), ([9, 10], [21]), ([8, 11], [21]), ([12], [21]), ([], [21]), ([], [21]), ([], [21]), ([15, 16], [21]), ([14, 17], [21]), ([18], [21]), ([0, 3], [21]), ([13, 20], [])], by kernel_rfl, ⟨fun X4 S hw hi hS => aQ (X := X4) rfl (hw X4) rfl (aY rfl (bW (v := .d (.lit a)) (aG rfl) (aL hS rfl) rfl)),
      fun X4 S hw hi hS => aQ (X := X4) rfl (hw X4) rfl (aY rfl (bW (v := .i e) (aG rfl) (aL hS rfl) rfl)),
      fun X4 S hw hi hS => aQ (X := X4) rfl (hw X4) rfl (aY rfl (bW (v := .i b) (aG rfl) (aL hS rfl) rfl)),
      fun X4 S hw hi hS => aQ (X := X4) rfl (hw X4) rfl (aY rfl (jP (aG rfl) (aL hS rfl) (aL hS rfl) rfl)),
      fun X4 S hw hi hS => aQ (X := X4) rfl (hw X4) rfl (aY rfl (bW (v := .d (.lit a)) (aG rfl) (aL hS rfl) rfl)),
      fun X4 S hw hi hS => aQ (X := X4) rfl (hw X4) rfl (aY rfl (bW (v := .i f) (aG rfl) (aL hS rfl) rfl)),
      fun X4 S hw hi hS => aQ (X := X4) rfl (hw X4) rfl (aY rfl (bW (v := .i b) (aG rfl) (aL hS rfl) rfl)),
      fun X4 S hw hi hS => aQ (X := X4) rfl (hw X4) rfl (aY rfl (jP (aG rfl) (aL hS rfl) (aL hS rfl) rfl)),
      fun X4 S hw hi hS => aQ (X := X4) rfl (hw X4) rfl (aY rfl (bW (v := .d (.lit a)) (aG rfl) (aL hS rfl) rfl)),
      fun X4 S hw hi hS => aQ (X := X4) rfl (hw X4) rfl (aY rfl (bW (v := .i f) (aG rfl) (aL hS rfl) rfl)),
      fun X4 S hw hi hS => aQ (X := X4) rfl (hw X4) rfl (aY rfl (bW (v := .i b) (aG rfl) (aL hS rfl) rfl)),
      fun X4 S hw hi hS => aQ (X := X4) rfl (hw X4) rfl (aY rfl (jP (aG rfl) (aL hS rfl) (aL hS rfl) rfl)),
      fun X4 S hw hi hS => aQ (X := X4) rfl (hw X4) rfl (aY rfl (cM (m := 0) (aG rfl) (aL hS rfl) (og hS rfl rfl) (aL hS rfl) bA.of (aX aA h6))),
      fun X4 S hw hi hS => aQ (X := X4) rfl (hw X4) rfl (aY rfl (cF (aG rfl) (aL hS rfl) (l := 0) (og hS rfl rfl) (cY aA h6) cS (es := (aA x5)) rfl rfl)),
      fun X4 S hw hi hS => aQ (X := X4) rfl (hw X4) rfl (aY rfl (bW (v := .d (.lit a)) (aG rfl) (aL hS rfl) rfl)),
      fun X4 S hw hi hS => aQ (X := X4) rfl (hw X4) rfl (aY rfl (bW (v := .i e) (aG rfl) (aL hS rfl) rfl)),
      fun X4 S hw hi hS => aQ (X := X4) rfl (hw X4) rfl (aY rfl (bW (v := .i b) (aG rfl) (aL hS rfl) rfl)),
      fun X4 S hw hi hS => aQ (X := X4) rfl (hw X4) rfl (aY rfl (jP (aG rfl) (aL hS rfl) (aL hS rfl) rfl)),
      fun X4 S hw hi hS => aQ (X := X4) rfl (hw X4) rfl (aY rfl (cM (m := 0) (aG rfl) (aL hS rfl) (og hS rfl rfl) (aL hS rfl) bA.of (aX aA h8))),
      fun X4 S hw hi hS => aQ (X := X4) rfl (hw X4) rfl (aY rfl (cF (aG rfl) (aL hS rfl) (l := 0) (og hS rfl rfl) (cY aA h8) cS (es := (aA x7)) rfl rfl)),
      fun X4 S hw hi hS => aQ (X := X4) rfl (hw X4) rfl (aY rfl (cM (m := 0) (aG rfl) (aL hS rfl) (og hS rfl rfl) (aL hS rfl) bA.of (aX aA s))),
      fun X4 S hw hi hS => oE (X := X4) hS rfl rfl rfl (p := 0) rfl rfl (aY rfl (iY (l := 0) (aL hS rfl) (og hS rfl rfl) (cY aA s) (aL hS rfl) rfl rfl Try.sizeOf42 rfl (aG rfl) (Nat.le_of_ble_eq_true rfl) (rows' := ((c.set (w64 (e + b)).toNat x5)).map aA) (mJ _ _ _ _ rfl))), trivial⟩⟩
   · exact fun X4 => cW (aK rfl (aK rfl (aK rfl (aO ⟨rfl, rfl, rfl, rfl, rfl, trivial⟩))))
  ·intro X4;obtain ⟨y, t, h⟩ := bns h;refine to (cM (m := 0) (aG rfl) rfl rfl rfl bA.of (aX aA t)) ?_;refine to (iY (l := 0) rfl rfl (cY aA t) rfl rfl rfl Try.sizeOf42 rfl (aG rfl) (Nat.le_of_ble_eq_true rfl) (rows' := (((c.set (w64 (e + b)).toNat x5).set (w64 (f + b)).toNat x7)).map aA) (mJ _ _ _ _ rfl)) ?_;refine dE ?_;refine aC (tm (.i b) (to (sar rfl rfl rfl) (ta (.i (w64 (b + 1))) (aD ?_))));exact ⟨(w64 (b + 1), ((c.set (w64 (e + b)).toNat x5).set (w64 (f + b)).toNat x7)), h, aN [0] rfl rfl (aK rfl (aK rfl (aO ⟨rfl, rfl, rfl, trivial⟩)))⟩
 ·refine bX ?_;refine .inl ⟨rfl, ?_⟩;simp only [gV] at h;obtain rfl := sIn h;exact ⟨_, [.arr a 42 5 (c.map aA)], [], _, .none, .refl _, .same _, rfl, rfl⟩

theorem lQ (o : List aB) (p : Int) (f : Int) (q : Int) (l : aB → aB → Option Int) {r : (List aB)} {b : Value} (c : Nat) (g : List AV) (m : ∀ args w, (callFunc c args).run Try.prog w = .ok (.enter c args) w) (n : ∀ (x0 : aB) (x1 : aB) r, l x0 x1 = some r → Fn Try.prog c ([.agg (aA x0), .agg (aA x1)] ++ g) (.i r)) (h : dQ o p f q l = some r) : eS Try.prog 138 [.d (.lit b), .i p, .i f, .i q, .fn c g] [.arr b 42 5 (o.map aA)] (fun r' o' => r' = .tup [] ∧ o' = [.arr b 42 5 (r.map aA)]) := by
 unfold dQ at h;refine iU Try.func138 rfl (rs := []) Try.results138 Try.ntmps138 (Nat.le_of_ble_eq_true rfl) ?_;refine aE (aC (tm (.i f) (tm (.i p) (to (sar rfl rfl rfl) (ta (.i (w64 (f - p))) (aD (aE (aC (tm (.i q) (tm (.i f) (to (sar rfl rfl rfl) (ta (.i (w64 (q - f))) (aD ?_)))))))))))));refine aE (bB ?_);refine bN (S := Int × Int × (List aB)) [2, 4] (fun s1 => [(0, .d (.lit b)), (10, .i s1.1), (11, .i s1.2.1)]) (fun s1 => [.arr b 42 5 (s1.2.2.map aA)]) (fun k s1 => cC f l k s1.1 s1.2.1 s1.2.2) (fun _ => rfl) (w64 (f - p), w64 (q - f), o) h (aN [0] rfl rfl (aK rfl (aK rfl (aK rfl (aO ⟨rfl, rfl, trivial⟩))))) ?_;rintro k2 ⟨a, e, j⟩ h;simp only [cC] at h;refine aE (aE (aC (tm (.i a) (tm (.i e) (to (scm rfl rfl rfl) (aD ?_))))));refine tih h (fun c3 h => ?_) (fun c3 h => ?_)
 ·refine aS (bB (aE (aC (tm (.i a) (tm (.i e) (to (scm rfl rfl rfl) (aD ?_)))))));refine tih h (fun c4 h => ?_) (fun c4 h => ?_)
  ·refine aE (aC (tm (.d (.lit b)) (tm (.i f) (tm (.i a) (to (sar rfl rfl rfl) (tm (.i f) (tm (.i e) (tm (.fn c g) ?_))))))));obtain ⟨r5, h6, h⟩ := bns h;refine aZ rfl (cR (passed := [.arr b 42 5 (j.map aA)]) (aG rfl) rfl (.func _ _ Try.call141) rfl rfl (hZ j (w64 (f - a)) f e l c g m n h6)) ?_;rintro _ ⟨_, _, ⟨rfl, rfl⟩, rfl⟩;refine aD (aC (tm (.i a) (tm (.i e) (to (sar rfl rfl rfl) (ta (.i (w64 (a - e))) ?_)))));refine dE ?_;exact ⟨(w64 (a - e), e, r5), h, aN [0] rfl rfl (aK rfl (aK rfl (aK rfl (aO ⟨rfl, rfl, trivial⟩))))⟩
  ·refine aE (aC (tm (.d (.lit b)) (tm (.i f) (tm (.i a) (to (sar rfl rfl rfl) (tm (.i f) (tm (.i e) (to (sar rfl rfl rfl) (tm (.i a) (to (sar rfl rfl rfl) (tm (.i a) (tm (.fn c g) ?_))))))))))));obtain ⟨r7, h8, h⟩ := bns h;refine aZ rfl (cR (passed := [.arr b 42 5 (j.map aA)]) (aG rfl) rfl (.func _ _ Try.call141) rfl rfl (hZ j (w64 (f - a)) (w64 ((w64 (f + e)) - a)) a l c g m n h8)) ?_;rintro _ ⟨_, _, ⟨rfl, rfl⟩, rfl⟩;refine aD (aC (tm (.i e) (tm (.i a) (to (sar rfl rfl rfl) (ta (.i (w64 (e - a))) ?_)))));refine dE ?_;exact ⟨(a, w64 (e - a), r7), h, aN [0] rfl rfl (aK rfl (aK rfl (aK rfl (aO ⟨rfl, rfl, trivial⟩))))⟩
 ·refine bX ?_;refine .inl ⟨rfl, ?_⟩;simp only [iM] at h;refine aC (tm (.d (.lit b)) (tm (.i f) (tm (.i a) (to (sar rfl rfl rfl) (tm (.i f) (tm (.i a) (tm (.fn c g) ?_)))))));obtain ⟨r9, s, h⟩ := bns h;refine aZ rfl (cR (passed := [.arr b 42 5 (j.map aA)]) (aG rfl) rfl (.func _ _ Try.call141) rfl rfl (hZ j (w64 (f - a)) f a l c g m n s)) ?_;rintro _ ⟨_, _, ⟨rfl, rfl⟩, rfl⟩;refine aD ?_;obtain rfl := sIn h;exact ⟨_, [.arr b 42 5 (r9.map aA)], [], _, .none, .refl _, .same _, rfl, rfl⟩

theorem pC (E : aB → aB → Option Int) (n : Nat) (o : List AV) (I : ∀ args w, (callFunc n args).run Try.prog w = .ok (.enter n args) w) (J : ∀ (x0 : aB) (x1 : aB) r, E x0 x1 = some r → Fn Try.prog n ([.agg (aA x0), .agg (aA x1)] ++ o) (.i r)) (kr : Nat) : ∀ (q : List aB) (g : Int) (j : Int) (f : Int) {r : (List aB)} {a : Value} (_h : aR E kr q g j f = some r), eS Try.prog 128 [.d (.lit a), .i g, .i j, .i f, .fn n o] [.arr a 42 5 (q.map aA)] (fun r' o' => r' = .tup [] ∧ o' = [.arr a 42 5 (r.map aA)]) := by
  induction kr with
  | zero => intros; rename_i h; cases h
  | succ kr ih =>
    intro q g j f r a h;simp only [aR] at h;refine iU Try.func128 rfl (rs := []) Try.results128 Try.ntmps128 (Nat.le_of_ble_eq_true rfl) ?_;refine aE (aE (aC (tm (.i j) (tm (.i g) (to (sar rfl rfl rfl) (to (scm rfl rfl rfl) (aD ?_)))))));refine tih h (fun c1 h => ?_) (fun c1 h => ?_)
    ·refine aE (aC (tm (.i j) (ta (.i j) (aD (aE (aC (tm (.i f) (ta (.i f) (aD (aE (bB ?_)))))))))));refine bN (S := Int × Int) [0, 1, 4] (fun s2 => [(10, .i s2.1), (11, .i s2.2)]) (fun s2 => [.arr a 42 5 (q.map aA)]) (fun k s2 => bR (aR E kr) g E q k s2.1 s2.2) (fun _ => rfl) (j, f) h (aN [0] rfl rfl (aK rfl (aK rfl (aO ⟨rfl, rfl, rfl, trivial⟩)))) ?_;rintro k3 ⟨C, H⟩ h;simp only [bR] at h;refine aE (aE (aC (tm (.i C) (tm (.i H) (to (scm rfl rfl rfl) (aD ?_))))));refine tih h (fun c4 h => ?_) (fun c4 h => ?_)
     ·refine aS (bB (aE (aC (tm (.i C) (tm (.i H) (to (sar rfl rfl rfl) (to (pA (aG rfl) rfl Try.runUnderlying3 Try.runUnderlying127) ?_)))))));refine to (aBe (aG rfl) rfl rfl (by decide)) ?_;refine to (pA (aG rfl) rfl Try.runUnderlying127 Try.runUnderlying3) ?_;refine ta (.i (w64 ((uw (w64 (C + H))).fdiv (2 ^ (min (1 : Int).toNat 64))))) (aD (aE ?_));obtain ⟨x5, h6, h⟩ := bns h;obtain ⟨x7, h8, h⟩ := bns h;refine fI mix 9 [0, 1, 4, 10, 11, 12] [(40, .fn n o), (44, .agg (aA x5)), (48, .agg (aA x7))] ?_ ?_
      ·refine ⟨[(40, 0, .fn n o), (41, 1, .d (.lit a)), (42, 2, .i (w64 ((uw (w64 (C + H))).fdiv (2 ^ (min (1 : Int).toNat 64))))), (43, 3, .ep a 5 (w64 ((uw (w64 (C + H))).fdiv (2 ^ (min (1 : Int).toNat 64)))).toNat 0), (44, 4, .agg (aA x5)), (45, 5, .d (.lit a)), (46, 6, .i g), (47, 7, .ep a 5 g.toNat 0), (48, 8, .agg (aA x7))], ?_, ?_⟩
       · exact dok [([], []), ([], []), ([], []), ([1, 2], []), ([3], []), ([], []), ([], []), ([5, 6], []), ([7], [])] ⟨go (zm (.fn n o)),
      go (zm (.d (.lit a))),
      go (zm (.i (w64 ((uw (w64 (C + H))).fdiv (2 ^ (min (1 : Int).toNat 64)))))),
      go (zia 0 rfl rfl rfl bA.of (aX aA h6)),
      go fun S hS => cF (aG rfl) (aL hS rfl) (l := 0) rfl (cY aA h6) cS (es := (aA x5)) rfl rfl,
      go (zm (.d (.lit a))),
      go (zm (.i g)),
      go (zia 0 rfl rfl rfl bA.of (aX aA h8)),
      go fun S hS => cF (aG rfl) (aL hS rfl) (l := 0) rfl (cY aA h8) cS (es := (aA x7)) rfl rfl, trivial⟩
       · exact cW (aK rfl (aK rfl (aK rfl (aO ⟨rfl, rfl, rfl, rfl, rfl, rfl, trivial⟩))))
      ·obtain ⟨r9, i2, h⟩ := bns h;refine to (jH (aG rfl) (.clo _ _ _ _ I rfl) (uG rfl) rfl (BVs.refl _ _) (J _ _ _  i2) rfl) ?_;refine to (scm rfl rfl rfl) (aD ?_);refine tih h (fun i3 h => ?_) (fun i3 h => ?_)
       ·refine aC (tm (.i (w64 ((uw (w64 (C + H))).fdiv (2 ^ (min (1 : Int).toNat 64))))) (to (sar rfl rfl rfl) (ta (.i (w64 ((w64 ((uw (w64 (C + H))).fdiv (2 ^ (min (1 : Int).toNat 64)))) + 1))) ?_)));refine dE ?_;exact ⟨(w64 ((w64 ((uw (w64 (C + H))).fdiv (2 ^ (min (1 : Int).toNat 64)))) + 1), H), h, aN [0] rfl rfl (aK rfl (aK rfl (aO ⟨rfl, rfl, rfl, trivial⟩)))⟩
       ·refine aC (tm (.i (w64 ((uw (w64 (C + H))).fdiv (2 ^ (min (1 : Int).toNat 64))))) (ta (.i (w64 ((uw (w64 (C + H))).fdiv (2 ^ (min (1 : Int).toNat 64))))) ?_));refine dE ?_;exact ⟨(C, w64 ((uw (w64 (C + H))).fdiv (2 ^ (min (1 : Int).toNat 64)))), h, aN [0] rfl rfl (aK rfl (aK rfl (aO ⟨rfl, rfl, rfl, trivial⟩)))⟩
     ·refine bX ?_;refine .inl ⟨rfl, ?_⟩;simp only [fB] at h;refine aE (aE (aC (tm (.i g) (ta (.i g) (aD (bB ?_))))));refine bN (S := Int × (List aB)) [10] (fun b2 => [(0, .d (.lit a)), (13, .i b2.1)]) (fun b2 => [.arr a 42 5 (b2.2.map aA)]) (fun k b2 => cP (aR E kr) C k b2.1 b2.2) (fun _ => rfl) (g, q) h (aN [0] rfl rfl (aK rfl (aK rfl (aO ⟨rfl, trivial⟩)))) ?_;rintro m2 ⟨u, F⟩ h;simp only [cP] at h;refine aE (aE (aC (tm (.i u) (tm (.i C) (to (sar rfl rfl rfl) (to (scm rfl rfl rfl) (aD ?_)))))));refine tih h (fun i4 h => ?_) (fun i4 h => ?_)
      ·refine aS (aE (bB ?_));obtain ⟨a2, e0, h⟩ := bns h;obtain ⟨b6, e1, h⟩ := bns h;obtain ⟨m3, e2, h⟩ := bns h;refine jC mix 16 [0, 10, 13] (fun s => [(63, .d (.lit a)), (65, .i (w64 (u + 1))), (74, .agg (aA b6))]) (fun s => [.arr a 42 5 ((F.set u.toNat a2).map aA)]) ?_ ?_
       ·refine ⟨0, fun s => [(61, 0, .d (.lit a)), (62, 1, .i u), (63, 2, .d (.lit a)), (64, 3, .i u), (65, 4, .i (w64 (u + 1))), (66, 5, .d (.lit a)), (67, 6, .i u), (68, 7, .i (w64 (u + 1))), (69, 8, .ep a 5 (w64 (u + 1)).toNat 0), (70, 9, .agg (aA a2)), (71, 10, .d (.lit a)), (72, 11, .i u), (73, 12, .ep a 5 u.toNat 0), (74, 13, .agg (aA b6)), (75, 14, .ep a 5 u.toNat 0)], fun s => [([(15, .arr a 42 5 ((F.set u.toNat a2).map aA))], .arr a 42 5 (F.map aA))], ?_, ?_⟩
        · exact ⟨by kernel_rfl, by kernel_rfl, by kernel_rfl, fun _ => by kernel_rfl, fun _ => by kernel_rfl, fun _ => by kernel_rfl, fun _ => rfl, [([], [15]), ([], [15]), ([], []), ([], []), ([3], []), ([], [15]), ([], [15]), ([6], [15]), ([5, 7], [15]), ([8], [15]), ([], [15]), ([], [15]), ([10, 11], [15]), ([12], [15]), ([0, 1], [15]), ([9, 14], [])], by kernel_rfl, ⟨fun s S hw hi hS => aQ (X := s) rfl (hw s) rfl (aY rfl (bW (v := .d (.lit a)) (aG rfl) (aL hS rfl) rfl)),
      fun s S hw hi hS => aQ (X := s) rfl (hw s) rfl (aY rfl (bW (v := .i u) (aG rfl) (aL hS rfl) rfl)),
      fun s S hw hi hS => aQ (X := s) rfl (hw s) rfl (aY rfl (bW (v := .d (.lit a)) (aG rfl) (aL hS rfl) rfl)),
      fun s S hw hi hS => aQ (X := s) rfl (hw s) rfl (aY rfl (bW (v := .i u) (aG rfl) (aL hS rfl) rfl)),
      fun s S hw hi hS => aQ (X := s) rfl (hw s) rfl (aY rfl (jP (aG rfl) (aL hS rfl) rfl rfl)),
      fun s S hw hi hS => aQ (X := s) rfl (hw s) rfl (aY rfl (bW (v := .d (.lit a)) (aG rfl) (aL hS rfl) rfl)),
      fun s S hw hi hS => aQ (X := s) rfl (hw s) rfl (aY rfl (bW (v := .i u) (aG rfl) (aL hS rfl) rfl)),
      fun s S hw hi hS => aQ (X := s) rfl (hw s) rfl (aY rfl (jP (aG rfl) (aL hS rfl) rfl rfl)),
      fun s S hw hi hS => aQ (X := s) rfl (hw s) rfl (aY rfl (cM (m := 0) (aG rfl) (aL hS rfl) (og hS rfl rfl) (aL hS rfl) bA.of (aX aA e0))),
      fun s S hw hi hS => aQ (X := s) rfl (hw s) rfl (aY rfl (cF (aG rfl) (aL hS rfl) (l := 0) (og hS rfl rfl) (cY aA e0) cS (es := (aA a2)) rfl rfl)),
      fun s S hw hi hS => aQ (X := s) rfl (hw s) rfl (aY rfl (bW (v := .d (.lit a)) (aG rfl) (aL hS rfl) rfl)),
      fun s S hw hi hS => aQ (X := s) rfl (hw s) rfl (aY rfl (bW (v := .i u) (aG rfl) (aL hS rfl) rfl)),
      fun s S hw hi hS => aQ (X := s) rfl (hw s) rfl (aY rfl (cM (m := 0) (aG rfl) (aL hS rfl) (og hS rfl rfl) (aL hS rfl) bA.of (aX aA e1))),
      fun s S hw hi hS => aQ (X := s) rfl (hw s) rfl (aY rfl (cF (aG rfl) (aL hS rfl) (l := 0) (og hS rfl rfl) (cY aA e1) cS (es := (aA b6)) rfl rfl)),
      fun s S hw hi hS => aQ (X := s) rfl (hw s) rfl (aY rfl (cM (m := 0) (aG rfl) (aL hS rfl) (og hS rfl rfl) (aL hS rfl) bA.of (aX aA e2))),
      fun s S hw hi hS => oE (X := s) hS rfl rfl rfl (p := 0) rfl rfl (aY rfl (iY (l := 0) (aL hS rfl) (og hS rfl rfl) (cY aA e2) (aL hS rfl) rfl rfl Try.sizeOf42 rfl (aG rfl) (Nat.le_of_ble_eq_true rfl) (rows' := ((F.set u.toNat a2)).map aA) (mJ _ _ _ _ rfl))), trivial⟩⟩
        · exact fun s => cW (aK rfl (aK rfl (aK rfl (aO ⟨rfl, rfl, rfl, trivial⟩))))
       ·intro s;obtain ⟨m4, e3, h⟩ := bns h;refine to (cM (m := 0) (aG rfl) rfl rfl rfl bA.of (aX aA e3)) ?_;refine to (iY (l := 0) rfl rfl (cY aA e3) rfl rfl rfl Try.sizeOf42 rfl (aG rfl) (Nat.le_of_ble_eq_true rfl) (rows' := (((F.set u.toNat a2).set (w64 (u + 1)).toNat b6)).map aA) (mJ _ _ _ _ rfl)) ?_;refine dE ?_;refine aC (tm (.i u) (to (sar rfl rfl rfl) (ta (.i (w64 (u + 1))) (aD ?_))));exact ⟨(w64 (u + 1), ((F.set u.toNat a2).set (w64 (u + 1)).toNat b6)), h, aN [0] rfl rfl (aK rfl (aK rfl (aO ⟨rfl, trivial⟩)))⟩
      ·refine bX ?_;refine .inl ⟨rfl, ?_⟩;simp only [iA] at h;obtain rfl := sIn h;exact aU ⟨rfl, _, [.arr a 42 5 (F.map aA)], [], _, .none, .refl _, .same _, rfl, rfl⟩
    ·refine aS (aE (aE (aC (tm (.i f) (tm (.i j) (to (sar rfl rfl rfl) (to (scm rfl rfl rfl) (aD ?_))))))));refine tih h (fun i5 h => ?_) (fun i5 h => ?_)
     ·refine aE (aC (tm (.i g) (ta (.i g) (aD (aE (aC (tm (.i j) (ta (.i j) (aD (aE (bB ?_)))))))))));refine bN (S := Int × Int) [0, 2, 4] (fun b3 => [(14, .i b3.1), (15, .i b3.2)]) (fun b3 => [.arr a 42 5 (q.map aA)]) (fun k b3 => bT (aR E kr) j E q k b3.1 b3.2) (fun _ => rfl) (g, j) h (aN [0] rfl rfl (aK rfl (aK rfl (aO ⟨rfl, rfl, rfl, trivial⟩)))) ?_;rintro m5 ⟨A, B⟩ h;simp only [bT] at h;refine aE (aE (aC (tm (.i A) (tm (.i B) (to (scm rfl rfl rfl) (aD ?_))))));refine tih h (fun i6 h => ?_) (fun i6 h => ?_)
      ·refine aS (bB (aE (aC (tm (.i A) (tm (.i B) (to (sar rfl rfl rfl) (to (pA (aG rfl) rfl Try.runUnderlying3 Try.runUnderlying127) ?_)))))));refine to (aBe (aG rfl) rfl rfl (by decide)) ?_;refine to (pA (aG rfl) rfl Try.runUnderlying127 Try.runUnderlying3) ?_;refine ta (.i (w64 ((uw (w64 (A + B))).fdiv (2 ^ (min (1 : Int).toNat 64))))) (aD (aE ?_));obtain ⟨d2, e4, h⟩ := bns h;obtain ⟨d3, e5, h⟩ := bns h;refine fI mix 9 [0, 2, 4, 14, 15, 16] [(92, .fn n o), (96, .agg (aA d2)), (100, .agg (aA d3))] ?_ ?_
       ·refine ⟨[(92, 0, .fn n o), (93, 1, .d (.lit a)), (94, 2, .i j), (95, 3, .ep a 5 j.toNat 0), (96, 4, .agg (aA d2)), (97, 5, .d (.lit a)), (98, 6, .i (w64 ((uw (w64 (A + B))).fdiv (2 ^ (min (1 : Int).toNat 64))))), (99, 7, .ep a 5 (w64 ((uw (w64 (A + B))).fdiv (2 ^ (min (1 : Int).toNat 64)))).toNat 0), (100, 8, .agg (aA d3))], ?_, ?_⟩
        · exact dok [([], []), ([], []), ([], []), ([1, 2], []), ([3], []), ([], []), ([], []), ([5, 6], []), ([7], [])] ⟨go (zm (.fn n o)),
      go (zm (.d (.lit a))),
      go (zm (.i j)),
      go (zia 0 rfl rfl rfl bA.of (aX aA e4)),
      go fun S hS => cF (aG rfl) (aL hS rfl) (l := 0) rfl (cY aA e4) cS (es := (aA d2)) rfl rfl,
      go (zm (.d (.lit a))),
      go (zm (.i (w64 ((uw (w64 (A + B))).fdiv (2 ^ (min (1 : Int).toNat 64)))))),
      go (zia 0 rfl rfl rfl bA.of (aX aA e5)),
      go fun S hS => cF (aG rfl) (aL hS rfl) (l := 0) rfl (cY aA e5) cS (es := (aA d3)) rfl rfl, trivial⟩
        · exact cW (aK rfl (aK rfl (aK rfl (aO ⟨rfl, rfl, rfl, rfl, rfl, rfl, trivial⟩))))
       ·obtain ⟨m6, i7, h⟩ := bns h;refine to (jH (aG rfl) (.clo _ _ _ _ I rfl) (uG rfl) rfl (BVs.refl _ _) (J _ _ _  i7) rfl) ?_;refine to (scm rfl rfl rfl) (to (sn rfl) (aD ?_));refine tih h (fun i8 h => ?_) (fun i8 h => ?_)
        ·refine aC (tm (.i (w64 ((uw (w64 (A + B))).fdiv (2 ^ (min (1 : Int).toNat 64))))) (to (sar rfl rfl rfl) (ta (.i (w64 ((w64 ((uw (w64 (A + B))).fdiv (2 ^ (min (1 : Int).toNat 64)))) + 1))) ?_)));refine dE ?_;exact ⟨(w64 ((w64 ((uw (w64 (A + B))).fdiv (2 ^ (min (1 : Int).toNat 64)))) + 1), B), h, aN [0] rfl rfl (aK rfl (aK rfl (aO ⟨rfl, rfl, rfl, trivial⟩)))⟩
        ·refine aC (tm (.i (w64 ((uw (w64 (A + B))).fdiv (2 ^ (min (1 : Int).toNat 64))))) (ta (.i (w64 ((uw (w64 (A + B))).fdiv (2 ^ (min (1 : Int).toNat 64))))) ?_));refine dE ?_;exact ⟨(A, w64 ((uw (w64 (A + B))).fdiv (2 ^ (min (1 : Int).toNat 64)))), h, aN [0] rfl rfl (aK rfl (aK rfl (aO ⟨rfl, rfl, rfl, trivial⟩)))⟩
      ·refine bX ?_;refine .inl ⟨rfl, ?_⟩;simp only [fC] at h;refine aE (aE (aC (tm (.i j) (ta (.i j) (aD (bB ?_))))));refine bN (S := Int × (List aB)) [14] (fun b4 => [(0, .d (.lit a)), (17, .i b4.1)]) (fun b4 => [.arr a 42 5 (b4.2.map aA)]) (fun k b4 => cQ (aR E kr) A k b4.1 b4.2) (fun _ => rfl) (j, q) h (aN [0] rfl rfl (aK rfl (aK rfl (aO ⟨rfl, trivial⟩)))) ?_;rintro m7 ⟨x, G⟩ h;simp only [cQ] at h;refine aE (aE (aC (tm (.i x) (tm (.i A) (to (scm rfl rfl rfl) (aD ?_))))));refine tih h (fun i9 h => ?_) (fun i9 h => ?_)
       ·refine aS (aE (bB ?_));obtain ⟨a3, e6, h⟩ := bns h;obtain ⟨b7, e7, h⟩ := bns h;obtain ⟨m8, e8, h⟩ := bns h;refine jC mix 16 [0, 14, 17] (fun t => [(115, .d (.lit a)), (117, .i (w64 (x - 1))), (126, .agg (aA b7))]) (fun t => [.arr a 42 5 ((G.set x.toNat a3).map aA)]) ?_ ?_
        ·refine ⟨0, fun t => [(113, 0, .d (.lit a)), (114, 1, .i x), (115, 2, .d (.lit a)), (116, 3, .i x), (117, 4, .i (w64 (x - 1))), (118, 5, .d (.lit a)), (119, 6, .i x), (120, 7, .i (w64 (x - 1))), (121, 8, .ep a 5 (w64 (x - 1)).toNat 0), (122, 9, .agg (aA a3)), (123, 10, .d (.lit a)), (124, 11, .i x), (125, 12, .ep a 5 x.toNat 0), (126, 13, .agg (aA b7)), (127, 14, .ep a 5 x.toNat 0)], fun t => [([(15, .arr a 42 5 ((G.set x.toNat a3).map aA))], .arr a 42 5 (G.map aA))], ?_, ?_⟩
         · exact ⟨by kernel_rfl, by kernel_rfl, by kernel_rfl, fun _ => by kernel_rfl, fun _ => by kernel_rfl, fun _ => by kernel_rfl, fun _ => rfl, [([], [15]), ([], [15]), ([], []), ([], []), ([3], []), ([], [15]), ([], [15]), ([6], [15]), ([5, 7], [15]), ([8], [15]), ([], [15]), ([], [15]), ([10, 11], [15]), ([12], [15]), ([0, 1], [15]), ([9, 14], [])], by kernel_rfl, ⟨fun t S hw hi hS => aQ (X := t) rfl (hw t) rfl (aY rfl (bW (v := .d (.lit a)) (aG rfl) (aL hS rfl) rfl)),
      fun t S hw hi hS => aQ (X := t) rfl (hw t) rfl (aY rfl (bW (v := .i x) (aG rfl) (aL hS rfl) rfl)),
      fun t S hw hi hS => aQ (X := t) rfl (hw t) rfl (aY rfl (bW (v := .d (.lit a)) (aG rfl) (aL hS rfl) rfl)),
      fun t S hw hi hS => aQ (X := t) rfl (hw t) rfl (aY rfl (bW (v := .i x) (aG rfl) (aL hS rfl) rfl)),
      fun t S hw hi hS => aQ (X := t) rfl (hw t) rfl (aY rfl (jP (aG rfl) (aL hS rfl) rfl rfl)),
      fun t S hw hi hS => aQ (X := t) rfl (hw t) rfl (aY rfl (bW (v := .d (.lit a)) (aG rfl) (aL hS rfl) rfl)),
      fun t S hw hi hS => aQ (X := t) rfl (hw t) rfl (aY rfl (bW (v := .i x) (aG rfl) (aL hS rfl) rfl)),
      fun t S hw hi hS => aQ (X := t) rfl (hw t) rfl (aY rfl (jP (aG rfl) (aL hS rfl) rfl rfl)),
      fun t S hw hi hS => aQ (X := t) rfl (hw t) rfl (aY rfl (cM (m := 0) (aG rfl) (aL hS rfl) (og hS rfl rfl) (aL hS rfl) bA.of (aX aA e6))),
      fun t S hw hi hS => aQ (X := t) rfl (hw t) rfl (aY rfl (cF (aG rfl) (aL hS rfl) (l := 0) (og hS rfl rfl) (cY aA e6) cS (es := (aA a3)) rfl rfl)),
      fun t S hw hi hS => aQ (X := t) rfl (hw t) rfl (aY rfl (bW (v := .d (.lit a)) (aG rfl) (aL hS rfl) rfl)),
      fun t S hw hi hS => aQ (X := t) rfl (hw t) rfl (aY rfl (bW (v := .i x) (aG rfl) (aL hS rfl) rfl)),
      fun t S hw hi hS => aQ (X := t) rfl (hw t) rfl (aY rfl (cM (m := 0) (aG rfl) (aL hS rfl) (og hS rfl rfl) (aL hS rfl) bA.of (aX aA e7))),
      fun t S hw hi hS => aQ (X := t) rfl (hw t) rfl (aY rfl (cF (aG rfl) (aL hS rfl) (l := 0) (og hS rfl rfl) (cY aA e7) cS (es := (aA b7)) rfl rfl)),
      fun t S hw hi hS => aQ (X := t) rfl (hw t) rfl (aY rfl (cM (m := 0) (aG rfl) (aL hS rfl) (og hS rfl rfl) (aL hS rfl) bA.of (aX aA e8))),
      fun t S hw hi hS => oE (X := t) hS rfl rfl rfl (p := 0) rfl rfl (aY rfl (iY (l := 0) (aL hS rfl) (og hS rfl rfl) (cY aA e8) (aL hS rfl) rfl rfl Try.sizeOf42 rfl (aG rfl) (Nat.le_of_ble_eq_true rfl) (rows' := ((G.set x.toNat a3)).map aA) (mJ _ _ _ _ rfl))), trivial⟩⟩
         · exact fun t => cW (aK rfl (aK rfl (aK rfl (aO ⟨rfl, rfl, rfl, trivial⟩))))
        ·intro t;obtain ⟨m9, e9, h⟩ := bns h;refine to (cM (m := 0) (aG rfl) rfl rfl rfl bA.of (aX aA e9)) ?_;refine to (iY (l := 0) rfl rfl (cY aA e9) rfl rfl rfl Try.sizeOf42 rfl (aG rfl) (Nat.le_of_ble_eq_true rfl) (rows' := (((G.set x.toNat a3).set (w64 (x - 1)).toNat b7)).map aA) (mJ _ _ _ _ rfl)) ?_;refine dE ?_;refine aC (tm (.i x) (to (sar rfl rfl rfl) (ta (.i (w64 (x - 1))) (aD ?_))));exact ⟨(w64 (x - 1), ((G.set x.toNat a3).set (w64 (x - 1)).toNat b7)), h, aN [0] rfl rfl (aK rfl (aK rfl (aO ⟨rfl, trivial⟩)))⟩
       ·refine bX ?_;refine .inl ⟨rfl, ?_⟩;simp only [iB] at h;obtain rfl := sIn h;exact aU ⟨rfl, _, [.arr a 42 5 (G.map aA)], [], _, .none, .refl _, .same _, rfl, rfl⟩
     ·refine aS (aE (aC (tm (.i g) (tm (.i f) (to (sar rfl rfl rfl) (to (pA (aG rfl) rfl Try.runUnderlying3 Try.runUnderlying127) ?_))))));refine to (aBe (aG rfl) rfl rfl (by decide)) ?_;refine to (pA (aG rfl) rfl Try.runUnderlying127 Try.runUnderlying3) ?_;refine ta (.i (w64 ((uw (w64 (g + f))).fdiv (2 ^ (min (1 : Int).toNat 64))))) (aD (aE (aC (tm (.i (w64 ((uw (w64 (g + f))).fdiv (2 ^ (min (1 : Int).toNat 64))))) (tm (.i j) (to (sar rfl rfl rfl) (ta (.i (w64 ((w64 ((uw (w64 (g + f))).fdiv (2 ^ (min (1 : Int).toNat 64)))) + j))) (aD (aE (aC (ta (.i 0) (ta (.i 0) (aD ?_)))))))))))));refine aE (aE (aC (tm (.i j) (tm (.i (w64 ((uw (w64 (g + f))).fdiv (2 ^ (min (1 : Int).toNat 64))))) (to (scm rfl rfl rfl) (aD ?_))))));refine tih h (fun j0 h => ?_) (fun j0 h => ?_)
      ·refine aE (aC (tm (.i (w64 ((w64 ((uw (w64 (g + f))).fdiv (2 ^ (min (1 : Int).toNat 64)))) + j))) (tm (.i f) (to (sar rfl rfl rfl) (ta (.i (w64 ((w64 ((w64 ((uw (w64 (g + f))).fdiv (2 ^ (min (1 : Int).toNat 64)))) + j)) - f))) (aD (aC (tm (.i (w64 ((uw (w64 (g + f))).fdiv (2 ^ (min (1 : Int).toNat 64))))) (ta (.i (w64 ((uw (w64 (g + f))).fdiv (2 ^ (min (1 : Int).toNat 64))))) (aD (aE (aC (tm (.i (w64 ((w64 ((uw (w64 (g + f))).fdiv (2 ^ (min (1 : Int).toNat 64)))) + j))) ?_)))))))))))));refine to (sar rfl rfl rfl) (ta (.i (w64 ((w64 ((w64 ((uw (w64 (g + f))).fdiv (2 ^ (min (1 : Int).toNat 64)))) + j)) - 1))) (aD (aE (bB ?_))));refine bN (S := Int × Int) [0, 1, 2, 3, 4, 18, 19, 22] (fun b5 => [(20, .i b5.1), (21, .i b5.2)]) (fun b5 => [.arr a 42 5 (q.map aA)]) (fun k b5 => bE (aR E kr) g j f E (w64 ((uw (w64 (g + f))).fdiv (2 ^ (min (1 : Int).toNat 64)))) (w64 ((w64 ((uw (w64 (g + f))).fdiv (2 ^ (min (1 : Int).toNat 64)))) + j)) (w64 ((w64 ((w64 ((uw (w64 (g + f))).fdiv (2 ^ (min (1 : Int).toNat 64)))) + j)) - 1)) q k b5.1 b5.2) (fun _ => rfl) (w64 ((w64 ((w64 ((uw (w64 (g + f))).fdiv (2 ^ (min (1 : Int).toNat 64)))) + j)) - f), w64 ((uw (w64 (g + f))).fdiv (2 ^ (min (1 : Int).toNat 64)))) h (aN [0] rfl rfl (aK rfl (aK rfl (aO ⟨rfl, rfl, rfl, rfl, rfl, rfl, rfl, rfl, trivial⟩)))) ?_;rintro n0 ⟨e, z⟩ h;simp only [bE] at h;refine aE (aE (aC (tm (.i e) (tm (.i z) (to (scm rfl rfl rfl) (aD ?_))))));refine tih h (fun j1 h => ?_) (fun j1 h => ?_)
       ·refine aS (bB (aE (aC (tm (.i e) (tm (.i z) (to (sar rfl rfl rfl) (to (pA (aG rfl) rfl Try.runUnderlying3 Try.runUnderlying127) ?_)))))));refine to (aBe (aG rfl) rfl rfl (by decide)) ?_;refine to (pA (aG rfl) rfl Try.runUnderlying127 Try.runUnderlying3) ?_;refine ta (.i (w64 ((uw (w64 (e + z))).fdiv (2 ^ (min (1 : Int).toNat 64))))) (aD (aE ?_));obtain ⟨d4, f0, h⟩ := bns h;obtain ⟨d5, f1, h⟩ := bns h;refine fI mix 11 [0, 1, 2, 3, 4, 18, 19, 20, 21, 22, 23] [(158, .fn n o), (164, .agg (aA d4)), (168, .agg (aA d5))] ?_ ?_
        ·refine ⟨[(158, 0, .fn n o), (159, 1, .d (.lit a)), (160, 2, .i (w64 ((w64 ((w64 ((uw (w64 (g + f))).fdiv (2 ^ (min (1 : Int).toNat 64)))) + j)) - 1))), (161, 3, .i (w64 ((uw (w64 (e + z))).fdiv (2 ^ (min (1 : Int).toNat 64))))), (162, 4, .i (w64 ((w64 ((w64 ((w64 ((uw (w64 (g + f))).fdiv (2 ^ (min (1 : Int).toNat 64)))) + j)) - 1)) - (w64 ((uw (w64 (e + z))).fdiv (2 ^ (min (1 : Int).toNat 64))))))), (163, 5, .ep a 5 (w64 ((w64 ((w64 ((w64 ((uw (w64 (g + f))).fdiv (2 ^ (min (1 : Int).toNat 64)))) + j)) - 1)) - (w64 ((uw (w64 (e + z))).fdiv (2 ^ (min (1 : Int).toNat 64)))))).toNat 0), (164, 6, .agg (aA d4)), (165, 7, .d (.lit a)), (166, 8, .i (w64 ((uw (w64 (e + z))).fdiv (2 ^ (min (1 : Int).toNat 64))))), (167, 9, .ep a 5 (w64 ((uw (w64 (e + z))).fdiv (2 ^ (min (1 : Int).toNat 64)))).toNat 0), (168, 10, .agg (aA d5))], ?_, ?_⟩
         · exact dok [([], []), ([], []), ([], []), ([], []), ([2, 3], []), ([1, 4], []), ([5], []), ([], []), ([], []), ([7, 8], []), ([9], [])] ⟨go (zm (.fn n o)),
      go (zm (.d (.lit a))),
      go (zm (.i (w64 ((w64 ((w64 ((uw (w64 (g + f))).fdiv (2 ^ (min (1 : Int).toNat 64)))) + j)) - 1)))),
      go (zm (.i (w64 ((uw (w64 (e + z))).fdiv (2 ^ (min (1 : Int).toNat 64)))))),
      go (zar rfl rfl rfl),
      go (zia 0 rfl rfl rfl bA.of (aX aA f0)),
      go fun S hS => cF (aG rfl) (aL hS rfl) (l := 0) rfl (cY aA f0) cS (es := (aA d4)) rfl rfl,
      go (zm (.d (.lit a))),
      go (zm (.i (w64 ((uw (w64 (e + z))).fdiv (2 ^ (min (1 : Int).toNat 64)))))),
      go (zia 0 rfl rfl rfl bA.of (aX aA f1)),
      go fun S hS => cF (aG rfl) (aL hS rfl) (l := 0) rfl (cY aA f1) cS (es := (aA d5)) rfl rfl, trivial⟩
         · exact cW (aK rfl (aK rfl (aK rfl (aO ⟨rfl, rfl, rfl, rfl, rfl, rfl, rfl, rfl, rfl, rfl, rfl, trivial⟩))))
        ·obtain ⟨n1, j2, h⟩ := bns h;refine to (jH (aG rfl) (.clo _ _ _ _ I rfl) (uG rfl) rfl (BVs.refl _ _) (J _ _ _  j2) rfl) ?_;refine to (scm rfl rfl rfl) (to (sn rfl) (aD ?_));refine tih h (fun j3 h => ?_) (fun j3 h => ?_)
         ·refine aC (tm (.i (w64 ((uw (w64 (e + z))).fdiv (2 ^ (min (1 : Int).toNat 64))))) (to (sar rfl rfl rfl) (ta (.i (w64 ((w64 ((uw (w64 (e + z))).fdiv (2 ^ (min (1 : Int).toNat 64)))) + 1))) ?_)));refine dE ?_;exact ⟨(w64 ((w64 ((uw (w64 (e + z))).fdiv (2 ^ (min (1 : Int).toNat 64)))) + 1), z), h, aN [0] rfl rfl (aK rfl (aK rfl (aO ⟨rfl, rfl, rfl, rfl, rfl, rfl, rfl, rfl, trivial⟩)))⟩
         ·refine aC (tm (.i (w64 ((uw (w64 (e + z))).fdiv (2 ^ (min (1 : Int).toNat 64))))) (ta (.i (w64 ((uw (w64 (e + z))).fdiv (2 ^ (min (1 : Int).toNat 64))))) ?_));refine dE ?_;exact ⟨(e, w64 ((uw (w64 (e + z))).fdiv (2 ^ (min (1 : Int).toNat 64)))), h, aN [0] rfl rfl (aK rfl (aK rfl (aO ⟨rfl, rfl, rfl, rfl, rfl, rfl, rfl, rfl, trivial⟩)))⟩
       ·refine bX ?_;refine .inl ⟨rfl, ?_⟩;simp only [cH] at h;refine aE (aC (tm (.i (w64 ((w64 ((uw (w64 (g + f))).fdiv (2 ^ (min (1 : Int).toNat 64)))) + j))) (tm (.i e) (to (sar rfl rfl rfl) (ta (.i (w64 ((w64 ((w64 ((uw (w64 (g + f))).fdiv (2 ^ (min (1 : Int).toNat 64)))) + j)) - e))) (aD (aE (aE (aC (tm (.i e) (tm (.i j) (to (scm rfl rfl rfl) (tm (.b (decide (e < j))) ?_)))))))))))));obtain ⟨j4, b8, h⟩ := bns h;refine aW 4 [0, 1, 2, 3, 4, 18, 20, 24] 185 j4 ?_ ?_
        ·refine bch b8 (fun T b8 => ?_) (fun T b8 => ?_)
         ·refine tk T (sm (.i j)) (tk T (sm (.i (w64 ((w64 ((w64 ((uw (w64 (g + f))).fdiv (2 ^ (min (1 : Int).toNat 64)))) + j)) - e)))) (tk T (scm rfl rfl rfl) (to (spt (.b (decide (j < (w64 ((w64 ((w64 ((uw (w64 (g + f))).fdiv (2 ^ (min (1 : Int).toNat 64)))) + j)) - e))))) T) ?_)));obtain rfl := sIn b8;refine aD (aM rfl ⟨rfl, rfl, rfl, rfl, rfl, rfl, rfl, rfl, trivial⟩ rfl)
         ·refine tp T (tp T (tp T (to (spf (.b false) T) ?_)));obtain rfl := sIn b8;refine aD (aM rfl ⟨rfl, rfl, rfl, rfl, rfl, rfl, rfl, rfl, trivial⟩ rfl)
        ·refine aD ?_;refine tih h (fun j5 h => ?_) (fun j5 h => ?_)
         ·refine aC (tm (.d (.lit a)) (tm (.i e) (tm (.i j) (tm (.i (w64 ((w64 ((w64 ((uw (w64 (g + f))).fdiv (2 ^ (min (1 : Int).toNat 64)))) + j)) - e))) (tm (.fn n o) ?_)))));obtain ⟨b9, j6, h⟩ := bns h;refine aZ rfl (cR (passed := [.arr a 42 5 (q.map aA)]) (aG rfl) rfl (.func _ _ Try.call138) rfl rfl (lQ q e j (w64 ((w64 ((w64 ((uw (w64 (g + f))).fdiv (2 ^ (min (1 : Int).toNat 64)))) + j)) - e)) E n o I J j6)) ?_;rintro _ ⟨_, _, ⟨rfl, rfl⟩, rfl⟩;refine aD (aE (aE (aC (tm (.i g) (tm (.i e) (to (scm rfl rfl rfl) (tm (.b (decide (g < e))) ?_)))))));obtain ⟨j7, c0, h⟩ := bns h;refine aW 4 [0, 1, 3, 4, 18, 20, 24] 199 j7 ?_ ?_
          ·refine bch c0 (fun U c0 => ?_) (fun U c0 => ?_)
           ·refine tk U (sm (.i e)) (tk U (sm (.i (w64 ((uw (w64 (g + f))).fdiv (2 ^ (min (1 : Int).toNat 64)))))) (tk U (scm rfl rfl rfl) (to (spt (.b (decide (e < (w64 ((uw (w64 (g + f))).fdiv (2 ^ (min (1 : Int).toNat 64))))))) U) ?_)));obtain rfl := sIn c0;refine aD (aM rfl ⟨rfl, rfl, rfl, rfl, rfl, rfl, rfl, trivial⟩ rfl)
           ·refine tp U (tp U (tp U (to (spf (.b false) U) ?_)));obtain rfl := sIn c0;refine aD (aM rfl ⟨rfl, rfl, rfl, rfl, rfl, rfl, rfl, trivial⟩ rfl)
          ·refine aD ?_;refine tih h (fun j8 h => ?_) (fun j8 h => ?_)
           ·refine aC (tm (.d (.lit a)) (tm (.i g) (tm (.i e) (tm (.i (w64 ((uw (w64 (g + f))).fdiv (2 ^ (min (1 : Int).toNat 64))))) (tm (.fn n o) ?_)))));obtain ⟨d6, j9, h⟩ := bns h;refine aZ rfl (cR (passed := [.arr a 42 5 (b9.map aA)]) (aG rfl) rfl (.func _ _ Try.call128) rfl rfl (ih b9 g e (w64 ((uw (w64 (g + f))).fdiv (2 ^ (min (1 : Int).toNat 64)))) j9)) ?_;rintro _ ⟨_, _, ⟨rfl, rfl⟩, rfl⟩;refine aD (aE (aC (tm (.i (w64 ((uw (w64 (g + f))).fdiv (2 ^ (min (1 : Int).toNat 64))))) (tm (.i (w64 ((w64 ((w64 ((uw (w64 (g + f))).fdiv (2 ^ (min (1 : Int).toNat 64)))) + j)) - e))) (to (scm rfl rfl rfl) (tm (.b (decide ((w64 ((uw (w64 (g + f))).fdiv (2 ^ (min (1 : Int).toNat 64)))) < (w64 ((w64 ((w64 ((uw (w64 (g + f))).fdiv (2 ^ (min (1 : Int).toNat 64)))) + j)) - e))))) ?_))))));obtain ⟨k0, c2, h⟩ := bns h;refine aW 4 [0, 3, 4, 18, 24] 213 k0 ?_ ?_
            ·refine bch c2 (fun V c2 => ?_) (fun V c2 => ?_)
             ·refine tk V (sm (.i (w64 ((w64 ((w64 ((uw (w64 (g + f))).fdiv (2 ^ (min (1 : Int).toNat 64)))) + j)) - e)))) (tk V (sm (.i f)) (tk V (scm rfl rfl rfl) (to (spt (.b (decide ((w64 ((w64 ((w64 ((uw (w64 (g + f))).fdiv (2 ^ (min (1 : Int).toNat 64)))) + j)) - e)) < f))) V) ?_)));obtain rfl := sIn c2;refine aD (aM rfl ⟨rfl, rfl, rfl, rfl, rfl, trivial⟩ rfl)
             ·refine tp V (tp V (tp V (to (spf (.b false) V) ?_)));obtain rfl := sIn c2;refine aD (aM rfl ⟨rfl, rfl, rfl, rfl, rfl, trivial⟩ rfl)
            ·refine aD ?_;refine tih h (fun k1 h => ?_) (fun k1 h => ?_)
             ·refine aC (tm (.d (.lit a)) (tm (.i (w64 ((uw (w64 (g + f))).fdiv (2 ^ (min (1 : Int).toNat 64))))) (tm (.i (w64 ((w64 ((w64 ((uw (w64 (g + f))).fdiv (2 ^ (min (1 : Int).toNat 64)))) + j)) - e))) (tm (.i f) (tm (.fn n o) ?_)))));obtain ⟨k2, k4, h⟩ := bns h;refine aZ rfl (cR (passed := [.arr a 42 5 (d6.map aA)]) (aG rfl) rfl (.func _ _ Try.call128) rfl rfl (ih d6 (w64 ((uw (w64 (g + f))).fdiv (2 ^ (min (1 : Int).toNat 64)))) (w64 ((w64 ((w64 ((uw (w64 (g + f))).fdiv (2 ^ (min (1 : Int).toNat 64)))) + j)) - e)) f k4)) ?_;rintro _ ⟨_, _, ⟨rfl, rfl⟩, rfl⟩;refine aD ?_;obtain rfl := sIn h;exact ⟨_, [.arr a 42 5 (k2.map aA)], [], _, .none, .refl _, .same _, rfl, rfl⟩
             ·refine aS ?_;obtain rfl := sIn h;exact ⟨_, [.arr a 42 5 (d6.map aA)], [], _, .none, .refl _, .same _, rfl, rfl⟩
           ·refine aS (aE (aC (tm (.i (w64 ((uw (w64 (g + f))).fdiv (2 ^ (min (1 : Int).toNat 64))))) (tm (.i (w64 ((w64 ((w64 ((uw (w64 (g + f))).fdiv (2 ^ (min (1 : Int).toNat 64)))) + j)) - e))) (to (scm rfl rfl rfl) (tm (.b (decide ((w64 ((uw (w64 (g + f))).fdiv (2 ^ (min (1 : Int).toNat 64)))) < (w64 ((w64 ((w64 ((uw (w64 (g + f))).fdiv (2 ^ (min (1 : Int).toNat 64)))) + j)) - e))))) ?_))))));obtain ⟨k5, c3, h⟩ := bns h;refine aW 4 [0, 3, 4, 18, 24] 213 k5 ?_ ?_
            ·refine bch c3 (fun W c3 => ?_) (fun W c3 => ?_)
             ·refine tk W (sm (.i (w64 ((w64 ((w64 ((uw (w64 (g + f))).fdiv (2 ^ (min (1 : Int).toNat 64)))) + j)) - e)))) (tk W (sm (.i f)) (tk W (scm rfl rfl rfl) (to (spt (.b (decide ((w64 ((w64 ((w64 ((uw (w64 (g + f))).fdiv (2 ^ (min (1 : Int).toNat 64)))) + j)) - e)) < f))) W) ?_)));obtain rfl := sIn c3;refine aD (aM rfl ⟨rfl, rfl, rfl, rfl, rfl, trivial⟩ rfl)
             ·refine tp W (tp W (tp W (to (spf (.b false) W) ?_)));obtain rfl := sIn c3;refine aD (aM rfl ⟨rfl, rfl, rfl, rfl, rfl, trivial⟩ rfl)
            ·refine aD ?_;refine tih h (fun k6 h => ?_) (fun k6 h => ?_)
             ·refine aC (tm (.d (.lit a)) (tm (.i (w64 ((uw (w64 (g + f))).fdiv (2 ^ (min (1 : Int).toNat 64))))) (tm (.i (w64 ((w64 ((w64 ((uw (w64 (g + f))).fdiv (2 ^ (min (1 : Int).toNat 64)))) + j)) - e))) (tm (.i f) (tm (.fn n o) ?_)))));obtain ⟨k7, k8, h⟩ := bns h;refine aZ rfl (cR (passed := [.arr a 42 5 (b9.map aA)]) (aG rfl) rfl (.func _ _ Try.call128) rfl rfl (ih b9 (w64 ((uw (w64 (g + f))).fdiv (2 ^ (min (1 : Int).toNat 64)))) (w64 ((w64 ((w64 ((uw (w64 (g + f))).fdiv (2 ^ (min (1 : Int).toNat 64)))) + j)) - e)) f k8)) ?_;rintro _ ⟨_, _, ⟨rfl, rfl⟩, rfl⟩;refine aD ?_;obtain rfl := sIn h;exact ⟨_, [.arr a 42 5 (k7.map aA)], [], _, .none, .refl _, .same _, rfl, rfl⟩
             ·refine aS ?_;obtain rfl := sIn h;exact ⟨_, [.arr a 42 5 (b9.map aA)], [], _, .none, .refl _, .same _, rfl, rfl⟩
         ·refine aS (aE (aE (aC (tm (.i g) (tm (.i e) (to (scm rfl rfl rfl) (tm (.b (decide (g < e))) ?_)))))));obtain ⟨k9, c5, h⟩ := bns h;refine aW 4 [0, 1, 3, 4, 18, 20, 24] 199 k9 ?_ ?_
          ·refine bch c5 (fun Y c5 => ?_) (fun Y c5 => ?_)
           ·refine tk Y (sm (.i e)) (tk Y (sm (.i (w64 ((uw (w64 (g + f))).fdiv (2 ^ (min (1 : Int).toNat 64)))))) (tk Y (scm rfl rfl rfl) (to (spt (.b (decide (e < (w64 ((uw (w64 (g + f))).fdiv (2 ^ (min (1 : Int).toNat 64))))))) Y) ?_)));obtain rfl := sIn c5;refine aD (aM rfl ⟨rfl, rfl, rfl, rfl, rfl, rfl, rfl, trivial⟩ rfl)
           ·refine tp Y (tp Y (tp Y (to (spf (.b false) Y) ?_)));obtain rfl := sIn c5;refine aD (aM rfl ⟨rfl, rfl, rfl, rfl, rfl, rfl, rfl, trivial⟩ rfl)
          ·refine aD ?_;refine tih h (fun l0 h => ?_) (fun l0 h => ?_)
           ·refine aC (tm (.d (.lit a)) (tm (.i g) (tm (.i e) (tm (.i (w64 ((uw (w64 (g + f))).fdiv (2 ^ (min (1 : Int).toNat 64))))) (tm (.fn n o) ?_)))));obtain ⟨d7, l1, h⟩ := bns h;refine aZ rfl (cR (passed := [.arr a 42 5 (q.map aA)]) (aG rfl) rfl (.func _ _ Try.call128) rfl rfl (ih q g e (w64 ((uw (w64 (g + f))).fdiv (2 ^ (min (1 : Int).toNat 64)))) l1)) ?_;rintro _ ⟨_, _, ⟨rfl, rfl⟩, rfl⟩;refine aD (aE (aC (tm (.i (w64 ((uw (w64 (g + f))).fdiv (2 ^ (min (1 : Int).toNat 64))))) (tm (.i (w64 ((w64 ((w64 ((uw (w64 (g + f))).fdiv (2 ^ (min (1 : Int).toNat 64)))) + j)) - e))) (to (scm rfl rfl rfl) (tm (.b (decide ((w64 ((uw (w64 (g + f))).fdiv (2 ^ (min (1 : Int).toNat 64)))) < (w64 ((w64 ((w64 ((uw (w64 (g + f))).fdiv (2 ^ (min (1 : Int).toNat 64)))) + j)) - e))))) ?_))))));obtain ⟨l2, c6, h⟩ := bns h;refine aW 4 [0, 3, 4, 18, 24] 213 l2 ?_ ?_
            ·refine bch c6 (fun Z c6 => ?_) (fun Z c6 => ?_)
             ·refine tk Z (sm (.i (w64 ((w64 ((w64 ((uw (w64 (g + f))).fdiv (2 ^ (min (1 : Int).toNat 64)))) + j)) - e)))) (tk Z (sm (.i f)) (tk Z (scm rfl rfl rfl) (to (spt (.b (decide ((w64 ((w64 ((w64 ((uw (w64 (g + f))).fdiv (2 ^ (min (1 : Int).toNat 64)))) + j)) - e)) < f))) Z) ?_)));obtain rfl := sIn c6;refine aD (aM rfl ⟨rfl, rfl, rfl, rfl, rfl, trivial⟩ rfl)
             ·refine tp Z (tp Z (tp Z (to (spf (.b false) Z) ?_)));obtain rfl := sIn c6;refine aD (aM rfl ⟨rfl, rfl, rfl, rfl, rfl, trivial⟩ rfl)
            ·refine aD ?_;refine tih h (fun l3 h => ?_) (fun l3 h => ?_)
             ·refine aC (tm (.d (.lit a)) (tm (.i (w64 ((uw (w64 (g + f))).fdiv (2 ^ (min (1 : Int).toNat 64))))) (tm (.i (w64 ((w64 ((w64 ((uw (w64 (g + f))).fdiv (2 ^ (min (1 : Int).toNat 64)))) + j)) - e))) (tm (.i f) (tm (.fn n o) ?_)))));obtain ⟨l4, l5, h⟩ := bns h;refine aZ rfl (cR (passed := [.arr a 42 5 (d7.map aA)]) (aG rfl) rfl (.func _ _ Try.call128) rfl rfl (ih d7 (w64 ((uw (w64 (g + f))).fdiv (2 ^ (min (1 : Int).toNat 64)))) (w64 ((w64 ((w64 ((uw (w64 (g + f))).fdiv (2 ^ (min (1 : Int).toNat 64)))) + j)) - e)) f l5)) ?_;rintro _ ⟨_, _, ⟨rfl, rfl⟩, rfl⟩;refine aD ?_;obtain rfl := sIn h;exact ⟨_, [.arr a 42 5 (l4.map aA)], [], _, .none, .refl _, .same _, rfl, rfl⟩
             ·refine aS ?_;obtain rfl := sIn h;exact ⟨_, [.arr a 42 5 (d7.map aA)], [], _, .none, .refl _, .same _, rfl, rfl⟩
           ·refine aS (aE (aC (tm (.i (w64 ((uw (w64 (g + f))).fdiv (2 ^ (min (1 : Int).toNat 64))))) (tm (.i (w64 ((w64 ((w64 ((uw (w64 (g + f))).fdiv (2 ^ (min (1 : Int).toNat 64)))) + j)) - e))) (to (scm rfl rfl rfl) (tm (.b (decide ((w64 ((uw (w64 (g + f))).fdiv (2 ^ (min (1 : Int).toNat 64)))) < (w64 ((w64 ((w64 ((uw (w64 (g + f))).fdiv (2 ^ (min (1 : Int).toNat 64)))) + j)) - e))))) ?_))))));obtain ⟨l6, c7, h⟩ := bns h;refine aW 4 [0, 3, 4, 18, 24] 213 l6 ?_ ?_
            ·refine bch c7 (fun a0 c7 => ?_) (fun a0 c7 => ?_)
             ·refine tk a0 (sm (.i (w64 ((w64 ((w64 ((uw (w64 (g + f))).fdiv (2 ^ (min (1 : Int).toNat 64)))) + j)) - e)))) (tk a0 (sm (.i f)) (tk a0 (scm rfl rfl rfl) (to (spt (.b (decide ((w64 ((w64 ((w64 ((uw (w64 (g + f))).fdiv (2 ^ (min (1 : Int).toNat 64)))) + j)) - e)) < f))) a0) ?_)));obtain rfl := sIn c7;refine aD (aM rfl ⟨rfl, rfl, rfl, rfl, rfl, trivial⟩ rfl)
             ·refine tp a0 (tp a0 (tp a0 (to (spf (.b false) a0) ?_)));obtain rfl := sIn c7;refine aD (aM rfl ⟨rfl, rfl, rfl, rfl, rfl, trivial⟩ rfl)
            ·refine aD ?_;refine tih h (fun l7 h => ?_) (fun l7 h => ?_)
             ·refine aC (tm (.d (.lit a)) (tm (.i (w64 ((uw (w64 (g + f))).fdiv (2 ^ (min (1 : Int).toNat 64))))) (tm (.i (w64 ((w64 ((w64 ((uw (w64 (g + f))).fdiv (2 ^ (min (1 : Int).toNat 64)))) + j)) - e))) (tm (.i f) (tm (.fn n o) ?_)))));obtain ⟨l8, l9, h⟩ := bns h;refine aZ rfl (cR (passed := [.arr a 42 5 (q.map aA)]) (aG rfl) rfl (.func _ _ Try.call128) rfl rfl (ih q (w64 ((uw (w64 (g + f))).fdiv (2 ^ (min (1 : Int).toNat 64)))) (w64 ((w64 ((w64 ((uw (w64 (g + f))).fdiv (2 ^ (min (1 : Int).toNat 64)))) + j)) - e)) f l9)) ?_;rintro _ ⟨_, _, ⟨rfl, rfl⟩, rfl⟩;refine aD ?_;obtain rfl := sIn h;exact ⟨_, [.arr a 42 5 (l8.map aA)], [], _, .none, .refl _, .same _, rfl, rfl⟩
             ·refine aS ?_;obtain rfl := sIn h;exact ⟨_, [.arr a 42 5 (q.map aA)], [], _, .none, .refl _, .same _, rfl, rfl⟩
      ·refine aE (aC (tm (.i g) (ta (.i g) (aD (aC (tm (.i j) (ta (.i j) (aD (aE (aC (tm (.i (w64 ((w64 ((uw (w64 (g + f))).fdiv (2 ^ (min (1 : Int).toNat 64)))) + j))) (to (sar rfl rfl rfl) (ta (.i (w64 ((w64 ((w64 ((uw (w64 (g + f))).fdiv (2 ^ (min (1 : Int).toNat 64)))) + j)) - 1))) ?_)))))))))))));refine aD (aE (bB ?_));refine bN (S := Int × Int) [0, 1, 2, 3, 4, 18, 19, 22] (fun a1 => [(20, .i a1.1), (21, .i a1.2)]) (fun a1 => [.arr a 42 5 (q.map aA)]) (fun k a1 => bE (aR E kr) g j f E (w64 ((uw (w64 (g + f))).fdiv (2 ^ (min (1 : Int).toNat 64)))) (w64 ((w64 ((uw (w64 (g + f))).fdiv (2 ^ (min (1 : Int).toNat 64)))) + j)) (w64 ((w64 ((w64 ((uw (w64 (g + f))).fdiv (2 ^ (min (1 : Int).toNat 64)))) + j)) - 1)) q k a1.1 a1.2) (fun _ => rfl) (g, j) h (aN [0] rfl rfl (aK rfl (aK rfl (aO ⟨rfl, rfl, rfl, rfl, rfl, rfl, rfl, rfl, trivial⟩)))) ?_;rintro m0 ⟨c, y⟩ h;simp only [bE] at h;refine aE (aE (aC (tm (.i c) (tm (.i y) (to (scm rfl rfl rfl) (aD ?_))))));refine tih h (fun f2 h => ?_) (fun f2 h => ?_)
       ·refine aS (bB (aE (aC (tm (.i c) (tm (.i y) (to (sar rfl rfl rfl) (to (pA (aG rfl) rfl Try.runUnderlying3 Try.runUnderlying127) ?_)))))));refine to (aBe (aG rfl) rfl rfl (by decide)) ?_;refine to (pA (aG rfl) rfl Try.runUnderlying127 Try.runUnderlying3) ?_;refine ta (.i (w64 ((uw (w64 (c + y))).fdiv (2 ^ (min (1 : Int).toNat 64))))) (aD (aE ?_));obtain ⟨c8, d8, h⟩ := bns h;obtain ⟨c9, d9, h⟩ := bns h;refine fI mix 11 [0, 1, 2, 3, 4, 18, 19, 20, 21, 22, 23] [(158, .fn n o), (164, .agg (aA c8)), (168, .agg (aA c9))] ?_ ?_
        ·refine ⟨[(158, 0, .fn n o), (159, 1, .d (.lit a)), (160, 2, .i (w64 ((w64 ((w64 ((uw (w64 (g + f))).fdiv (2 ^ (min (1 : Int).toNat 64)))) + j)) - 1))), (161, 3, .i (w64 ((uw (w64 (c + y))).fdiv (2 ^ (min (1 : Int).toNat 64))))), (162, 4, .i (w64 ((w64 ((w64 ((w64 ((uw (w64 (g + f))).fdiv (2 ^ (min (1 : Int).toNat 64)))) + j)) - 1)) - (w64 ((uw (w64 (c + y))).fdiv (2 ^ (min (1 : Int).toNat 64))))))), (163, 5, .ep a 5 (w64 ((w64 ((w64 ((w64 ((uw (w64 (g + f))).fdiv (2 ^ (min (1 : Int).toNat 64)))) + j)) - 1)) - (w64 ((uw (w64 (c + y))).fdiv (2 ^ (min (1 : Int).toNat 64)))))).toNat 0), (164, 6, .agg (aA c8)), (165, 7, .d (.lit a)), (166, 8, .i (w64 ((uw (w64 (c + y))).fdiv (2 ^ (min (1 : Int).toNat 64))))), (167, 9, .ep a 5 (w64 ((uw (w64 (c + y))).fdiv (2 ^ (min (1 : Int).toNat 64)))).toNat 0), (168, 10, .agg (aA c9))], ?_, ?_⟩
         · exact dok [([], []), ([], []), ([], []), ([], []), ([2, 3], []), ([1, 4], []), ([5], []), ([], []), ([], []), ([7, 8], []), ([9], [])] ⟨go (zm (.fn n o)),
      go (zm (.d (.lit a))),
      go (zm (.i (w64 ((w64 ((w64 ((uw (w64 (g + f))).fdiv (2 ^ (min (1 : Int).toNat 64)))) + j)) - 1)))),
      go (zm (.i (w64 ((uw (w64 (c + y))).fdiv (2 ^ (min (1 : Int).toNat 64)))))),
      go (zar rfl rfl rfl),
      go (zia 0 rfl rfl rfl bA.of (aX aA d8)),
      go fun S hS => cF (aG rfl) (aL hS rfl) (l := 0) rfl (cY aA d8) cS (es := (aA c8)) rfl rfl,
      go (zm (.d (.lit a))),
      go (zm (.i (w64 ((uw (w64 (c + y))).fdiv (2 ^ (min (1 : Int).toNat 64)))))),
      go (zia 0 rfl rfl rfl bA.of (aX aA d9)),
      go fun S hS => cF (aG rfl) (aL hS rfl) (l := 0) rfl (cY aA d9) cS (es := (aA c9)) rfl rfl, trivial⟩
         · exact cW (aK rfl (aK rfl (aK rfl (aO ⟨rfl, rfl, rfl, rfl, rfl, rfl, rfl, rfl, rfl, rfl, rfl, trivial⟩))))
        ·obtain ⟨m1, f3, h⟩ := bns h;refine to (jH (aG rfl) (.clo _ _ _ _ I rfl) (uG rfl) rfl (BVs.refl _ _) (J _ _ _  f3) rfl) ?_;refine to (scm rfl rfl rfl) (to (sn rfl) (aD ?_));refine tih h (fun f4 h => ?_) (fun f4 h => ?_)
         ·refine aC (tm (.i (w64 ((uw (w64 (c + y))).fdiv (2 ^ (min (1 : Int).toNat 64))))) (to (sar rfl rfl rfl) (ta (.i (w64 ((w64 ((uw (w64 (c + y))).fdiv (2 ^ (min (1 : Int).toNat 64)))) + 1))) ?_)));refine dE ?_;exact ⟨(w64 ((w64 ((uw (w64 (c + y))).fdiv (2 ^ (min (1 : Int).toNat 64)))) + 1), y), h, aN [0] rfl rfl (aK rfl (aK rfl (aO ⟨rfl, rfl, rfl, rfl, rfl, rfl, rfl, rfl, trivial⟩)))⟩
         ·refine aC (tm (.i (w64 ((uw (w64 (c + y))).fdiv (2 ^ (min (1 : Int).toNat 64))))) (ta (.i (w64 ((uw (w64 (c + y))).fdiv (2 ^ (min (1 : Int).toNat 64))))) ?_));refine dE ?_;exact ⟨(c, w64 ((uw (w64 (c + y))).fdiv (2 ^ (min (1 : Int).toNat 64)))), h, aN [0] rfl rfl (aK rfl (aK rfl (aO ⟨rfl, rfl, rfl, rfl, rfl, rfl, rfl, rfl, trivial⟩)))⟩
       ·refine bX ?_;refine .inl ⟨rfl, ?_⟩;simp only [cH] at h;refine aE (aC (tm (.i (w64 ((w64 ((uw (w64 (g + f))).fdiv (2 ^ (min (1 : Int).toNat 64)))) + j))) (tm (.i c) (to (sar rfl rfl rfl) (ta (.i (w64 ((w64 ((w64 ((uw (w64 (g + f))).fdiv (2 ^ (min (1 : Int).toNat 64)))) + j)) - c))) (aD (aE (aE (aC (tm (.i c) (tm (.i j) (to (scm rfl rfl rfl) (tm (.b (decide (c < j))) ?_)))))))))))));obtain ⟨f5, a4, h⟩ := bns h;refine aW 4 [0, 1, 2, 3, 4, 18, 20, 24] 185 f5 ?_ ?_
        ·refine bch a4 (fun K a4 => ?_) (fun K a4 => ?_)
         ·refine tk K (sm (.i j)) (tk K (sm (.i (w64 ((w64 ((w64 ((uw (w64 (g + f))).fdiv (2 ^ (min (1 : Int).toNat 64)))) + j)) - c)))) (tk K (scm rfl rfl rfl) (to (spt (.b (decide (j < (w64 ((w64 ((w64 ((uw (w64 (g + f))).fdiv (2 ^ (min (1 : Int).toNat 64)))) + j)) - c))))) K) ?_)));obtain rfl := sIn a4;refine aD (aM rfl ⟨rfl, rfl, rfl, rfl, rfl, rfl, rfl, rfl, trivial⟩ rfl)
         ·refine tp K (tp K (tp K (to (spf (.b false) K) ?_)));obtain rfl := sIn a4;refine aD (aM rfl ⟨rfl, rfl, rfl, rfl, rfl, rfl, rfl, rfl, trivial⟩ rfl)
        ·refine aD ?_;refine tih h (fun f6 h => ?_) (fun f6 h => ?_)
         ·refine aC (tm (.d (.lit a)) (tm (.i c) (tm (.i j) (tm (.i (w64 ((w64 ((w64 ((uw (w64 (g + f))).fdiv (2 ^ (min (1 : Int).toNat 64)))) + j)) - c))) (tm (.fn n o) ?_)))));obtain ⟨a5, f7, h⟩ := bns h;refine aZ rfl (cR (passed := [.arr a 42 5 (q.map aA)]) (aG rfl) rfl (.func _ _ Try.call138) rfl rfl (lQ q c j (w64 ((w64 ((w64 ((uw (w64 (g + f))).fdiv (2 ^ (min (1 : Int).toNat 64)))) + j)) - c)) E n o I J f7)) ?_;rintro _ ⟨_, _, ⟨rfl, rfl⟩, rfl⟩;refine aD (aE (aE (aC (tm (.i g) (tm (.i c) (to (scm rfl rfl rfl) (tm (.b (decide (g < c))) ?_)))))));obtain ⟨f8, a6, h⟩ := bns h;refine aW 4 [0, 1, 3, 4, 18, 20, 24] 199 f8 ?_ ?_
          ·refine bch a6 (fun L a6 => ?_) (fun L a6 => ?_)
           ·refine tk L (sm (.i c)) (tk L (sm (.i (w64 ((uw (w64 (g + f))).fdiv (2 ^ (min (1 : Int).toNat 64)))))) (tk L (scm rfl rfl rfl) (to (spt (.b (decide (c < (w64 ((uw (w64 (g + f))).fdiv (2 ^ (min (1 : Int).toNat 64))))))) L) ?_)));obtain rfl := sIn a6;refine aD (aM rfl ⟨rfl, rfl, rfl, rfl, rfl, rfl, rfl, trivial⟩ rfl)
           ·refine tp L (tp L (tp L (to (spf (.b false) L) ?_)));obtain rfl := sIn a6;refine aD (aM rfl ⟨rfl, rfl, rfl, rfl, rfl, rfl, rfl, trivial⟩ rfl)
          ·refine aD ?_;refine tih h (fun f9 h => ?_) (fun f9 h => ?_)
           ·refine aC (tm (.d (.lit a)) (tm (.i g) (tm (.i c) (tm (.i (w64 ((uw (w64 (g + f))).fdiv (2 ^ (min (1 : Int).toNat 64))))) (tm (.fn n o) ?_)))));obtain ⟨d0, g0, h⟩ := bns h;refine aZ rfl (cR (passed := [.arr a 42 5 (a5.map aA)]) (aG rfl) rfl (.func _ _ Try.call128) rfl rfl (ih a5 g c (w64 ((uw (w64 (g + f))).fdiv (2 ^ (min (1 : Int).toNat 64)))) g0)) ?_;rintro _ ⟨_, _, ⟨rfl, rfl⟩, rfl⟩;refine aD (aE (aC (tm (.i (w64 ((uw (w64 (g + f))).fdiv (2 ^ (min (1 : Int).toNat 64))))) (tm (.i (w64 ((w64 ((w64 ((uw (w64 (g + f))).fdiv (2 ^ (min (1 : Int).toNat 64)))) + j)) - c))) (to (scm rfl rfl rfl) (tm (.b (decide ((w64 ((uw (w64 (g + f))).fdiv (2 ^ (min (1 : Int).toNat 64)))) < (w64 ((w64 ((w64 ((uw (w64 (g + f))).fdiv (2 ^ (min (1 : Int).toNat 64)))) + j)) - c))))) ?_))))));obtain ⟨g1, a7, h⟩ := bns h;refine aW 4 [0, 3, 4, 18, 24] 213 g1 ?_ ?_
            ·refine bch a7 (fun M a7 => ?_) (fun M a7 => ?_)
             ·refine tk M (sm (.i (w64 ((w64 ((w64 ((uw (w64 (g + f))).fdiv (2 ^ (min (1 : Int).toNat 64)))) + j)) - c)))) (tk M (sm (.i f)) (tk M (scm rfl rfl rfl) (to (spt (.b (decide ((w64 ((w64 ((w64 ((uw (w64 (g + f))).fdiv (2 ^ (min (1 : Int).toNat 64)))) + j)) - c)) < f))) M) ?_)));obtain rfl := sIn a7;refine aD (aM rfl ⟨rfl, rfl, rfl, rfl, rfl, trivial⟩ rfl)
             ·refine tp M (tp M (tp M (to (spf (.b false) M) ?_)));obtain rfl := sIn a7;refine aD (aM rfl ⟨rfl, rfl, rfl, rfl, rfl, trivial⟩ rfl)
            ·refine aD ?_;refine tih h (fun g2 h => ?_) (fun g2 h => ?_)
             ·refine aC (tm (.d (.lit a)) (tm (.i (w64 ((uw (w64 (g + f))).fdiv (2 ^ (min (1 : Int).toNat 64))))) (tm (.i (w64 ((w64 ((w64 ((uw (w64 (g + f))).fdiv (2 ^ (min (1 : Int).toNat 64)))) + j)) - c))) (tm (.i f) (tm (.fn n o) ?_)))));obtain ⟨g3, g4, h⟩ := bns h;refine aZ rfl (cR (passed := [.arr a 42 5 (d0.map aA)]) (aG rfl) rfl (.func _ _ Try.call128) rfl rfl (ih d0 (w64 ((uw (w64 (g + f))).fdiv (2 ^ (min (1 : Int).toNat 64)))) (w64 ((w64 ((w64 ((uw (w64 (g + f))).fdiv (2 ^ (min (1 : Int).toNat 64)))) + j)) - c)) f g4)) ?_;rintro _ ⟨_, _, ⟨rfl, rfl⟩, rfl⟩;refine aD ?_;obtain rfl := sIn h;exact ⟨_, [.arr a 42 5 (g3.map aA)], [], _, .none, .refl _, .same _, rfl, rfl⟩
             ·refine aS ?_;obtain rfl := sIn h;exact ⟨_, [.arr a 42 5 (d0.map aA)], [], _, .none, .refl _, .same _, rfl, rfl⟩
           ·refine aS (aE (aC (tm (.i (w64 ((uw (w64 (g + f))).fdiv (2 ^ (min (1 : Int).toNat 64))))) (tm (.i (w64 ((w64 ((w64 ((uw (w64 (g + f))).fdiv (2 ^ (min (1 : Int).toNat 64)))) + j)) - c))) (to (scm rfl rfl rfl) (tm (.b (decide ((w64 ((uw (w64 (g + f))).fdiv (2 ^ (min (1 : Int).toNat 64)))) < (w64 ((w64 ((w64 ((uw (w64 (g + f))).fdiv (2 ^ (min (1 : Int).toNat 64)))) + j)) - c))))) ?_))))));obtain ⟨g5, a8, h⟩ := bns h;refine aW 4 [0, 3, 4, 18, 24] 213 g5 ?_ ?_
            ·refine bch a8 (fun N a8 => ?_) (fun N a8 => ?_)
             ·refine tk N (sm (.i (w64 ((w64 ((w64 ((uw (w64 (g + f))).fdiv (2 ^ (min (1 : Int).toNat 64)))) + j)) - c)))) (tk N (sm (.i f)) (tk N (scm rfl rfl rfl) (to (spt (.b (decide ((w64 ((w64 ((w64 ((uw (w64 (g + f))).fdiv (2 ^ (min (1 : Int).toNat 64)))) + j)) - c)) < f))) N) ?_)));obtain rfl := sIn a8;refine aD (aM rfl ⟨rfl, rfl, rfl, rfl, rfl, trivial⟩ rfl)
             ·refine tp N (tp N (tp N (to (spf (.b false) N) ?_)));obtain rfl := sIn a8;refine aD (aM rfl ⟨rfl, rfl, rfl, rfl, rfl, trivial⟩ rfl)
            ·refine aD ?_;refine tih h (fun g6 h => ?_) (fun g6 h => ?_)
             ·refine aC (tm (.d (.lit a)) (tm (.i (w64 ((uw (w64 (g + f))).fdiv (2 ^ (min (1 : Int).toNat 64))))) (tm (.i (w64 ((w64 ((w64 ((uw (w64 (g + f))).fdiv (2 ^ (min (1 : Int).toNat 64)))) + j)) - c))) (tm (.i f) (tm (.fn n o) ?_)))));obtain ⟨g7, g8, h⟩ := bns h;refine aZ rfl (cR (passed := [.arr a 42 5 (a5.map aA)]) (aG rfl) rfl (.func _ _ Try.call128) rfl rfl (ih a5 (w64 ((uw (w64 (g + f))).fdiv (2 ^ (min (1 : Int).toNat 64)))) (w64 ((w64 ((w64 ((uw (w64 (g + f))).fdiv (2 ^ (min (1 : Int).toNat 64)))) + j)) - c)) f g8)) ?_;rintro _ ⟨_, _, ⟨rfl, rfl⟩, rfl⟩;refine aD ?_;obtain rfl := sIn h;exact ⟨_, [.arr a 42 5 (g7.map aA)], [], _, .none, .refl _, .same _, rfl, rfl⟩
             ·refine aS ?_;obtain rfl := sIn h;exact ⟨_, [.arr a 42 5 (a5.map aA)], [], _, .none, .refl _, .same _, rfl, rfl⟩
         ·refine aS (aE (aE (aC (tm (.i g) (tm (.i c) (to (scm rfl rfl rfl) (tm (.b (decide (g < c))) ?_)))))));obtain ⟨g9, a9, h⟩ := bns h;refine aW 4 [0, 1, 3, 4, 18, 20, 24] 199 g9 ?_ ?_
          ·refine bch a9 (fun O a9 => ?_) (fun O a9 => ?_)
           ·refine tk O (sm (.i c)) (tk O (sm (.i (w64 ((uw (w64 (g + f))).fdiv (2 ^ (min (1 : Int).toNat 64)))))) (tk O (scm rfl rfl rfl) (to (spt (.b (decide (c < (w64 ((uw (w64 (g + f))).fdiv (2 ^ (min (1 : Int).toNat 64))))))) O) ?_)));obtain rfl := sIn a9;refine aD (aM rfl ⟨rfl, rfl, rfl, rfl, rfl, rfl, rfl, trivial⟩ rfl)
           ·refine tp O (tp O (tp O (to (spf (.b false) O) ?_)));obtain rfl := sIn a9;refine aD (aM rfl ⟨rfl, rfl, rfl, rfl, rfl, rfl, rfl, trivial⟩ rfl)
          ·refine aD ?_;refine tih h (fun h0 h => ?_) (fun h0 h => ?_)
           ·refine aC (tm (.d (.lit a)) (tm (.i g) (tm (.i c) (tm (.i (w64 ((uw (w64 (g + f))).fdiv (2 ^ (min (1 : Int).toNat 64))))) (tm (.fn n o) ?_)))));obtain ⟨d1, h1, h⟩ := bns h;refine aZ rfl (cR (passed := [.arr a 42 5 (q.map aA)]) (aG rfl) rfl (.func _ _ Try.call128) rfl rfl (ih q g c (w64 ((uw (w64 (g + f))).fdiv (2 ^ (min (1 : Int).toNat 64)))) h1)) ?_;rintro _ ⟨_, _, ⟨rfl, rfl⟩, rfl⟩;refine aD (aE (aC (tm (.i (w64 ((uw (w64 (g + f))).fdiv (2 ^ (min (1 : Int).toNat 64))))) (tm (.i (w64 ((w64 ((w64 ((uw (w64 (g + f))).fdiv (2 ^ (min (1 : Int).toNat 64)))) + j)) - c))) (to (scm rfl rfl rfl) (tm (.b (decide ((w64 ((uw (w64 (g + f))).fdiv (2 ^ (min (1 : Int).toNat 64)))) < (w64 ((w64 ((w64 ((uw (w64 (g + f))).fdiv (2 ^ (min (1 : Int).toNat 64)))) + j)) - c))))) ?_))))));obtain ⟨h2, b0, h⟩ := bns h;refine aW 4 [0, 3, 4, 18, 24] 213 h2 ?_ ?_
            ·refine bch b0 (fun P b0 => ?_) (fun P b0 => ?_)
             ·refine tk P (sm (.i (w64 ((w64 ((w64 ((uw (w64 (g + f))).fdiv (2 ^ (min (1 : Int).toNat 64)))) + j)) - c)))) (tk P (sm (.i f)) (tk P (scm rfl rfl rfl) (to (spt (.b (decide ((w64 ((w64 ((w64 ((uw (w64 (g + f))).fdiv (2 ^ (min (1 : Int).toNat 64)))) + j)) - c)) < f))) P) ?_)));obtain rfl := sIn b0;refine aD (aM rfl ⟨rfl, rfl, rfl, rfl, rfl, trivial⟩ rfl)
             ·refine tp P (tp P (tp P (to (spf (.b false) P) ?_)));obtain rfl := sIn b0;refine aD (aM rfl ⟨rfl, rfl, rfl, rfl, rfl, trivial⟩ rfl)
            ·refine aD ?_;refine tih h (fun h3 h => ?_) (fun h3 h => ?_)
             ·refine aC (tm (.d (.lit a)) (tm (.i (w64 ((uw (w64 (g + f))).fdiv (2 ^ (min (1 : Int).toNat 64))))) (tm (.i (w64 ((w64 ((w64 ((uw (w64 (g + f))).fdiv (2 ^ (min (1 : Int).toNat 64)))) + j)) - c))) (tm (.i f) (tm (.fn n o) ?_)))));obtain ⟨h4, h5, h⟩ := bns h;refine aZ rfl (cR (passed := [.arr a 42 5 (d1.map aA)]) (aG rfl) rfl (.func _ _ Try.call128) rfl rfl (ih d1 (w64 ((uw (w64 (g + f))).fdiv (2 ^ (min (1 : Int).toNat 64)))) (w64 ((w64 ((w64 ((uw (w64 (g + f))).fdiv (2 ^ (min (1 : Int).toNat 64)))) + j)) - c)) f h5)) ?_;rintro _ ⟨_, _, ⟨rfl, rfl⟩, rfl⟩;refine aD ?_;obtain rfl := sIn h;exact ⟨_, [.arr a 42 5 (h4.map aA)], [], _, .none, .refl _, .same _, rfl, rfl⟩
             ·refine aS ?_;obtain rfl := sIn h;exact ⟨_, [.arr a 42 5 (d1.map aA)], [], _, .none, .refl _, .same _, rfl, rfl⟩
           ·refine aS (aE (aC (tm (.i (w64 ((uw (w64 (g + f))).fdiv (2 ^ (min (1 : Int).toNat 64))))) (tm (.i (w64 ((w64 ((w64 ((uw (w64 (g + f))).fdiv (2 ^ (min (1 : Int).toNat 64)))) + j)) - c))) (to (scm rfl rfl rfl) (tm (.b (decide ((w64 ((uw (w64 (g + f))).fdiv (2 ^ (min (1 : Int).toNat 64)))) < (w64 ((w64 ((w64 ((uw (w64 (g + f))).fdiv (2 ^ (min (1 : Int).toNat 64)))) + j)) - c))))) ?_))))));obtain ⟨h7, b1, h⟩ := bns h;refine aW 4 [0, 3, 4, 18, 24] 213 h7 ?_ ?_
            ·refine bch b1 (fun Q b1 => ?_) (fun Q b1 => ?_)
             ·refine tk Q (sm (.i (w64 ((w64 ((w64 ((uw (w64 (g + f))).fdiv (2 ^ (min (1 : Int).toNat 64)))) + j)) - c)))) (tk Q (sm (.i f)) (tk Q (scm rfl rfl rfl) (to (spt (.b (decide ((w64 ((w64 ((w64 ((uw (w64 (g + f))).fdiv (2 ^ (min (1 : Int).toNat 64)))) + j)) - c)) < f))) Q) ?_)));obtain rfl := sIn b1;refine aD (aM rfl ⟨rfl, rfl, rfl, rfl, rfl, trivial⟩ rfl)
             ·refine tp Q (tp Q (tp Q (to (spf (.b false) Q) ?_)));obtain rfl := sIn b1;refine aD (aM rfl ⟨rfl, rfl, rfl, rfl, rfl, trivial⟩ rfl)
            ·refine aD ?_;refine tih h (fun h9 h => ?_) (fun h9 h => ?_)
             ·refine aC (tm (.d (.lit a)) (tm (.i (w64 ((uw (w64 (g + f))).fdiv (2 ^ (min (1 : Int).toNat 64))))) (tm (.i (w64 ((w64 ((w64 ((uw (w64 (g + f))).fdiv (2 ^ (min (1 : Int).toNat 64)))) + j)) - c))) (tm (.i f) (tm (.fn n o) ?_)))));obtain ⟨i0, i1, h⟩ := bns h;refine aZ rfl (cR (passed := [.arr a 42 5 (q.map aA)]) (aG rfl) rfl (.func _ _ Try.call128) rfl rfl (ih q (w64 ((uw (w64 (g + f))).fdiv (2 ^ (min (1 : Int).toNat 64)))) (w64 ((w64 ((w64 ((uw (w64 (g + f))).fdiv (2 ^ (min (1 : Int).toNat 64)))) + j)) - c)) f i1)) ?_;rintro _ ⟨_, _, ⟨rfl, rfl⟩, rfl⟩;refine aD ?_;obtain rfl := sIn h;exact ⟨_, [.arr a 42 5 (i0.map aA)], [], _, .none, .refl _, .same _, rfl, rfl⟩
             ·refine aS ?_;obtain rfl := sIn h;exact ⟨_, [.arr a 42 5 (q.map aA)], [], _, .none, .refl _, .same _, rfl, rfl⟩
theorem lA (f : List aB) (k : Int) (l : Int) (m : Int) (e : aB → aB → Option Int) {r : (List aB)} {b : Value} (a : Nat) (c : List AV) (g : ∀ args w, (callFunc a args).run Try.prog w = .ok (.enter a args) w) (j : ∀ (x0 : aB) (x1 : aB) r, e x0 x1 = some r → Fn Try.prog a ([.agg (aA x0), .agg (aA x1)] ++ c) (.i r)) (h : fU f k l m e = some r) : eS Try.prog 128 [.d (.lit b), .i k, .i l, .i m, .fn a c] [.arr b 42 5 (f.map aA)] (fun r' o' => r' = .tup [] ∧ o' = [.arr b 42 5 (r.map aA)]) := pC e a c g j BIG _ _ _ _ h

theorem qG (u : List aB) (n : Int) (j : aB → aB → Option Int) {r : (List aB)} {b : Value} (c : Nat) (e : List AV) (p : ∀ args w, (callFunc c args).run Try.prog w = .ok (.enter c args) w) (q : ∀ (x0 : aB) (x1 : aB) r, j x0 x1 = some r → Fn Try.prog c ([.agg (aA x0), .agg (aA x1)] ++ e) (.i r)) (h : gC u n j = some r) : eS Try.prog 106 [.d (.lit b), .i n, .fn c e] [.arr b 42 5 (u.map aA)] (fun r' o' => r' = .tup [] ∧ o' = [.arr b 42 5 (r.map aA)]) := by
 unfold gC at h;refine iU Try.func106 rfl (rs := []) Try.results106 Try.ntmps106 (Nat.le_of_ble_eq_true rfl) ?_;refine aE (aC (ta (.i 20) (aD (aE (aC (tm (.i 20) (ta (.i 0) (ta (.i 20) (aD (aE (bB ?_)))))))))));refine bN (S := Int × Int × (List aB)) [1, 2, 6] (fun s1 => [(0, .d (.lit b)), (7, .i s1.1), (8, .i s1.2.1)]) (fun s1 => [.arr b 42 5 (s1.2.2.map aA)]) (fun k s1 => cT n j 20 k s1.1 s1.2.1 s1.2.2) (fun _ => rfl) (0, 20, u) h (aN [0] rfl rfl (aK rfl (aK rfl (aK rfl (aO ⟨rfl, rfl, rfl, trivial⟩))))) ?_;rintro k2 ⟨t, m, o⟩ h;simp only [cT] at h;refine aE (aE (aC (tm (.i m) (tm (.i n) (to (scm rfl rfl rfl) (aD ?_))))));refine tih h (fun c3 h => ?_) (fun c3 h => ?_)
 ·refine aS (bB (aE (aC (tm (.d (.lit b)) (tm (.i t) (tm (.i m) (tm (.fn c e) ?_)))))));obtain ⟨r4, h5, h⟩ := bns h;refine aZ rfl (cR (passed := [.arr b 42 5 (o.map aA)]) (aG rfl) rfl (.func _ _ Try.call127) rfl rfl (jJ o t m j c e p q h5)) ?_;rintro _ ⟨_, _, ⟨rfl, rfl⟩, rfl⟩;refine aD (aE (aC (tm (.i m) (ta (.i m) (aD (aC (tm (.i m) (tm (.i 20) (to (sar rfl rfl rfl) (ta (.i (w64 (m + 20))) ?_))))))))));refine dE ?_;exact ⟨(m, w64 (m + 20), r4), h, aN [0] rfl rfl (aK rfl (aK rfl (aK rfl (aO ⟨rfl, rfl, rfl, trivial⟩))))⟩
 ·refine bX ?_;refine .inl ⟨rfl, ?_⟩;simp only [iN] at h;refine aE (aC (tm (.d (.lit b)) (tm (.i t) (tm (.i n) (tm (.fn c e) ?_)))));obtain ⟨r6, h7, h⟩ := bns h;refine aZ rfl (cR (passed := [.arr b 42 5 (o.map aA)]) (aG rfl) rfl (.func _ _ Try.call127) rfl rfl (jJ o t n j c e p q h7)) ?_;rintro _ ⟨_, _, ⟨rfl, rfl⟩, rfl⟩;refine aD (bB ?_);refine bN (S := Int × (List aB)) [1, 2] (fun s8 => [(0, .d (.lit b)), (6, .i s8.1)]) (fun s8 => [.arr b 42 5 (s8.2.map aA)]) (fun k s8 => cD n j k s8.1 s8.2) (fun _ => rfl) (20, r6) h (aN [0] rfl rfl (aK rfl (aK rfl (aO ⟨rfl, rfl, trivial⟩)))) ?_;rintro k9 ⟨a, v⟩ h;simp only [cD] at h;refine aE (aE (aC (tm (.i a) (tm (.i n) (to (scm rfl rfl rfl) (aD ?_))))));refine tih h (fun x h => ?_) (fun x h => ?_)
  ·refine aS (bB (aE (aC (tm (.i a) (to (sar rfl rfl rfl) (ta (.i 0) (ta (.i (w64 (2 * a))) (aD (aE (bB ?_))))))))));refine bN (S := Int × Int × (List aB)) [1, 2, 6] (fun s => [(0, .d (.lit b)), (7, .i s.1), (8, .i s.2.1)]) (fun s => [.arr b 42 5 (s.2.2.map aA)]) (fun k s => cU (cD n j k9) n j a k s.1 s.2.1 s.2.2) (fun _ => rfl) (0, w64 (2 * a), v) h (aN [0] rfl rfl (aK rfl (aK rfl (aK rfl (aO ⟨rfl, rfl, rfl, trivial⟩))))) ?_;rintro F ⟨f, g, l⟩ h;simp only [cU] at h;refine aE (aE (aC (tm (.i g) (tm (.i n) (to (scm rfl rfl rfl) (aD ?_))))));refine tih h (fun y h => ?_) (fun y h => ?_)
   ·refine aS (bB (aE (aC (tm (.d (.lit b)) (tm (.i f) (tm (.i f) (tm (.i a) (to (sar rfl rfl rfl) (tm (.i g) (tm (.fn c e) ?_))))))))));obtain ⟨z, A, h⟩ := bns h;refine aZ rfl (cR (passed := [.arr b 42 5 (l.map aA)]) (aG rfl) rfl (.func _ _ Try.call128) rfl rfl (lA l f (w64 (f + a)) g j c e p q A)) ?_;rintro _ ⟨_, _, ⟨rfl, rfl⟩, rfl⟩;refine aD (aE (aC (tm (.i g) (ta (.i g) (aD (aC (tm (.i g) (tm (.i a) (to (sar rfl rfl rfl) (to (sar rfl rfl rfl) (ta (.i (w64 (g + (w64 (2 * a))))) ?_)))))))))));refine dE ?_;exact ⟨(g, w64 (g + (w64 (2 * a))), z), h, aN [0] rfl rfl (aK rfl (aK rfl (aK rfl (aO ⟨rfl, rfl, rfl, trivial⟩))))⟩
   ·refine bX ?_;refine .inl ⟨rfl, ?_⟩;simp only [iP] at h;refine aE (aE (aC (tm (.i f) (tm (.i a) (to (sar rfl rfl rfl) (ta (.i (w64 (f + a))) (aD (aE (aC (tm (.i (w64 (f + a))) (tm (.i n) (to (scm rfl rfl rfl) (aD ?_)))))))))))));refine tih h (fun B h => ?_) (fun B h => ?_)
    ·refine aC (tm (.d (.lit b)) (tm (.i f) (tm (.i (w64 (f + a))) (tm (.i n) (tm (.fn c e) ?_)))));obtain ⟨C, E, h⟩ := bns h;refine aZ rfl (cR (passed := [.arr b 42 5 (l.map aA)]) (aG rfl) rfl (.func _ _ Try.call128) rfl rfl (lA l f (w64 (f + a)) n j c e p q E)) ?_;rintro _ ⟨_, _, ⟨rfl, rfl⟩, rfl⟩;refine aD (aC (tm (.i a) (to (sar rfl rfl rfl) (ta (.i (w64 (a * 2))) ?_))));refine dE ?_;simp only [eF] at h;exact ⟨(w64 (a * 2), C), h, aN [0] rfl rfl (aK rfl (aK rfl (aO ⟨rfl, rfl, trivial⟩)))⟩
    ·refine aS (aC (tm (.i a) (to (sar rfl rfl rfl) (ta (.i (w64 (a * 2))) ?_))));refine dE ?_;simp only [eF] at h;exact ⟨(w64 (a * 2), l), h, aN [0] rfl rfl (aK rfl (aK rfl (aO ⟨rfl, rfl, trivial⟩)))⟩
  ·refine bX ?_;refine .inl ⟨rfl, ?_⟩;simp only [iO] at h;obtain rfl := sIn h;exact ⟨_, [.arr b 42 5 (v.map aA)], [], _, .none, .refl _, .same _, rfl, rfl⟩

theorem lH (f : List aB) (e : aB → aB → Option Int) {r : (List aB)} {b : Value} (a : Nat) (c : List AV) (g : ∀ args w, (callFunc a args).run Try.prog w = .ok (.enter a args) w) (j : ∀ (x0 : aB) (x1 : aB) r, e x0 x1 = some r → Fn Try.prog a ([.agg (aA x0), .agg (aA x1)] ++ c) (.i r)) (h : dL f e = some r) : eS Try.prog 92 [.d (.lit b), .fn a c] [.arr b 42 5 (f.map aA)] (fun r' o' => r' = .tup [] ∧ o' = [.arr b 42 5 (r.map aA)]) := by
 unfold dL at h;refine iU Try.func92 rfl (rs := []) Try.results92 Try.ntmps92 (Nat.le_of_ble_eq_true rfl) ?_;refine aC (tm (.d (.lit b)) (tm (.d (.lit b)) (to (jI (m := 0) (aG rfl) rfl rfl bA.of) ?_)));refine tm (.fn a c) ?_;obtain ⟨r1, h2, h⟩ := bns h;refine aZ rfl (cR (passed := [.arr b 42 5 (f.map aA)]) (aG rfl) rfl (.func _ _ Try.call106) rfl rfl (qG f (f.length : Int) e a c g j h2)) ?_;rintro _ ⟨_, _, ⟨rfl, rfl⟩, rfl⟩;refine aD ?_;obtain rfl := sIn h;exact ⟨_, [.arr b 42 5 (r1.map aA)], [], _, .none, .refl _, .same _, rfl, rfl⟩

theorem aCp (a : aB) (b : aB) {r : Int} (h : oD a b = some r) : Fn Try.prog 93 [.agg (aA a), .agg (aA b)] (.i r) := by
 unfold oD at h;refine Fn.of_tr Try.func93 rfl (rs := [.tmp 4]) Try.results93 Try.ntmps93 (Nat.le_of_ble_eq_true rfl) ?_;refine aE (aC ?_);refine aZ rfl (eM (v := .agg (aA a)) (aG rfl) rfl rfl rfl) ?_;rintro _ ⟨b1, rfl⟩;refine aZ rfl (eM (v := .agg (aA b)) (aG rfl) rfl rfl rfl) ?_;rintro _ ⟨b2, rfl⟩;refine ta (.i 0) (aD (aE (aC (tfl 0 rfl rfl lC rfl aT (tfl 1 rfl rfl lC rfl aT (to (sar rfl rfl rfl) (ta (.i (w64 (a.Id - b.Id))) (aD ?_))))))));obtain rfl := sIn h;refine bP (bG (bK (l := [4]) ⟨rfl, trivial⟩)) ?_;exact aU ⟨rfl, _, .one _, rfl, rfl⟩

theorem tA (s : List aB) {r : (List aB)} {j : Value} (h : gR s = some r) : eS Try.prog 94 [.d (.lit j)] [.arr j 42 5 (s.map aA)] (fun r' o' => ∃ w0 : Value, r' = .d (.lit w0) ∧ o' = [.arr w0 42 5 (r.map aA)]) := by
 unfold gR at h;refine kI Try.func94 rfl (rs := [.tmp 2]) Try.results94 Try.ntmps94 (Nat.le_of_ble_eq_true rfl) ?_;refine aE (aC (to (hY 42 5 (.inl rfl) (aG rfl)) ?_));refine aD (aE (aE (aC (tm (.d (.lit j)) (to (jI (m := 0) (aG rfl) rfl rfl bA.of) ?_)))));refine to (scm rfl rfl rfl) (aD ?_);refine tih h (fun c2 h => ?_) (fun c2 h => ?_)
 ·refine aE (aC (tm (.d (.lit j)) (ta (.d (.lit j)) (aD ?_))));obtain rfl := sIn h;exact aU ⟨rfl, _, [.arr j 42 5 (s.map aA)], [.arr (.slice none 0 0) 42 5 (([] : List aB).map aA)], _, .one (.tmp 2 (v := .d (.lit j)) rfl), .refl _, .same _, j, rfl, rfl⟩
 ·refine aS (aE (aE (aC (ta (.i 1) (aD (bB ?_))))));refine bN (S := Int × (List aB) × Value) [] (fun s3 => [(0, .d (.lit s3.2.2)), (3, .i s3.1)]) (fun s3 => [.arr s3.2.2 42 5 (s3.2.1.map aA)]) (fun k s3 => cJ k s3.1 s3.2.1) (fun _ => rfl) (1, s, j) h (aN [0] rfl rfl (aK rfl (aK rfl (aO trivial)))) ?_;rintro k5 ⟨c, p, w4⟩ h;simp only [cJ] at h;refine aE (aE (aC (tm (.i c) (tm (.d (.lit w4)) (to (jI (m := 0) (aG rfl) rfl rfl bA.of) ?_)))));refine to (scm rfl rfl rfl) (aD ?_);refine tih h (fun c6 h => ?_) (fun c6 h => ?_)
  ·refine aS (aE (bB (aE ?_)));obtain ⟨x7, h8, h⟩ := bns h;obtain ⟨x9, x, h⟩ := bns h;refine fI mix 9 [0, 3] [(19, .agg (aA x7)), (24, .agg (aA x9))] ?_ ?_
   ·refine ⟨[(16, 0, .d (.lit w4)), (17, 1, .i c), (18, 2, .ep w4 5 c.toNat 0), (19, 3, .agg (aA x7)), (20, 4, .d (.lit w4)), (21, 5, .i c), (22, 6, .i (w64 (c - 1))), (23, 7, .ep w4 5 (w64 (c - 1)).toNat 0), (24, 8, .agg (aA x9))], ?_, ?_⟩
    · exact dok [([], []), ([], []), ([0, 1], []), ([2], []), ([], []), ([], []), ([5], []), ([4, 6], []), ([7], [])] ⟨go (zm (.d (.lit w4))),
      go (zm (.i c)),
      go (zia 0 rfl rfl rfl bA.of (aX aA h8)),
      go fun S hS => cF (aG rfl) (aL hS rfl) (l := 0) rfl (cY aA h8) cS (es := (aA x7)) rfl rfl,
      go (zm (.d (.lit w4))),
      go (zm (.i c)),
      go (zar rfl rfl rfl),
      go (zia 0 rfl rfl rfl bA.of (aX aA x)),
      go fun S hS => cF (aG rfl) (aL hS rfl) (l := 0) rfl (cY aA x) cS (es := (aA x9)) rfl rfl, trivial⟩
    · exact cW (aK rfl (aK rfl (aO ⟨rfl, rfl, trivial⟩)))
   ·refine to (aKq (a := x7) (b := x9) (aG rfl) rfl rfl rfl rfl Try.eqGuardType42 xY) ?_;refine aD ?_;refine tih h (fun C h => ?_) (fun C h => ?_)
    ·refine aE (aC (tm (.d (.lit w4)) (tm (.i c) ?_)));obtain ⟨K, E, h⟩ := bns h;refine to (uZ (m := 0) (aG rfl) rfl rfl rfl bA.of E) ?_;refine ta (.d (.lit (kW w4 c.toNat 5))) (aD (aE (aE (aC (ta (.i 1) (aD (bB ?_)))))));refine bN (S := Int × Int × (List aB)) [] (fun o => [(0, .d (.lit w4)), (3, .i o.1), (4, .d (.lit (kW w4 c.toNat 5))), (5, .i o.2.1)]) (fun o => [.arr w4 42 5 (o.2.2.map aA)]) (fun k o => dA (cJ k5) c k o.1 o.2.1 o.2.2) (fun _ => rfl) (c, 1, p) h (aN [0] rfl rfl (aK rfl (aK rfl (aK rfl (aK rfl (aO trivial)))))) ?_;rintro L ⟨g, e, n⟩ h;simp only [dA] at h;refine aE (aE (aC (tm (.i e) (tm (.d (.lit (kW w4 c.toNat 5))) (to (aGb (m := 0) (aG rfl) rfl rfl bA.of) ?_)))));refine to (scm rfl rfl rfl) (aD ?_);refine tih h (fun F h => ?_) (fun F h => ?_)
     ·refine aS (aE (bB (aE ?_)));obtain ⟨t, y, h⟩ := bns h;obtain ⟨u, z, h⟩ := bns h;refine fI mix 9 [0, 3, 4, 5] [(38, .agg (aA t)), (43, .agg (aA u))] ?_ ?_
      ·refine ⟨[(35, 0, .d (.lit (kW w4 c.toNat 5))), (36, 1, .i e), (37, 2, .ep w4 5 (c.toNat + e.toNat) 0), (38, 3, .agg (aA t)), (39, 4, .d (.lit (kW w4 c.toNat 5))), (40, 5, .i e), (41, 6, .i (w64 (e - 1))), (42, 7, .ep w4 5 (c.toNat + (w64 (e - 1)).toNat) 0), (43, 8, .agg (aA u))], ?_, ?_⟩
       · exact dok [([], []), ([], []), ([0, 1], []), ([2], []), ([], []), ([], []), ([5], []), ([4, 6], []), ([7], [])] ⟨go (zm (.d (.lit (kW w4 c.toNat 5)))),
      go (zm (.i e)),
      go fun S hS => wA (m := 0) (aG rfl) (aL hS rfl) rfl (aL hS rfl) bA.of (vB (f := aA) y),
      go fun S hS => cF (aG rfl) (aL hS rfl) (l := 0) rfl (aBs aA y) cS (es := (aA t)) rfl rfl,
      go (zm (.d (.lit (kW w4 c.toNat 5)))),
      go (zm (.i e)),
      go (zar rfl rfl rfl),
      go fun S hS => wA (m := 0) (aG rfl) (aL hS rfl) rfl (aL hS rfl) bA.of (vB (f := aA) z),
      go fun S hS => cF (aG rfl) (aL hS rfl) (l := 0) rfl (aBs aA z) cS (es := (aA u)) rfl rfl, trivial⟩
       · exact cW (aK rfl (aK rfl (aO ⟨rfl, rfl, rfl, rfl, trivial⟩)))
      ·refine to (aBd (a := t) (b := u) (aG rfl) rfl rfl rfl rfl Try.eqGuardType42 xY) ?_;refine aD ?_;refine tih h (fun G h => ?_) (fun G h => ?_)
       ·refine aE (aC (tm (.d (.lit w4)) (tm (.i g) (tm (.d (.lit (kW w4 c.toNat 5))) (tm (.i e) ?_)))));obtain ⟨w, A, h⟩ := bns h;refine to (wA (m := 0) (aG rfl) rfl rfl rfl bA.of (vB (f := aA) A)) ?_;refine to (cF (aG rfl) rfl (l := 0) rfl (aBs aA A) cS (es := (aA w)) rfl rfl) ?_;obtain ⟨M, B, h⟩ := bns h;refine to (cM (m := 0) (aG rfl) rfl rfl rfl bA.of (aX aA B)) ?_;refine to (iY (l := 0) rfl rfl (cY aA B) rfl rfl rfl Try.sizeOf42 rfl (aG rfl) (Nat.le_of_ble_eq_true rfl) (rows' := ((n.set g.toNat w)).map aA) (mJ _ _ _ _ rfl)) ?_;refine aD (aC (tm (.i g) (to (sar rfl rfl rfl) (ta (.i (w64 (g + 1))) ?_))));refine dE ?_;refine aC (tm (.i e) (to (sar rfl rfl rfl) (ta (.i (w64 (e + 1))) (aD ?_))));exact ⟨(w64 (g + 1), w64 (e + 1), (n.set g.toNat w)), h, aN [0] rfl rfl (aK rfl (aK rfl (aK rfl (aK rfl (aO trivial)))))⟩
       ·refine dG ?_;refine aC (tm (.i e) (to (sar rfl rfl rfl) (ta (.i (w64 (e + 1))) (aD ?_))));exact ⟨(g, w64 (e + 1), n), h, aN [0] rfl rfl (aK rfl (aK rfl (aK rfl (aK rfl (aO trivial)))))⟩
     ·refine bX ?_;refine .inl ⟨rfl, ?_⟩;simp only [kG] at h;refine aE (aC (tm (.d (.lit w4)) (tm (.i g) ?_)));obtain ⟨N, H, h⟩ := bns h;refine to (uZ (m := 0) (aG rfl) rfl rfl rfl bA.of H) ?_;obtain ⟨O, I, h⟩ := bns h;refine to (aDz (f := aA) (m := 0) bA rfl rfl I (by decide)) ?_;refine aD (aE (aC (tm (.d (.lit w4)) (tm (.i g) ?_))));obtain ⟨P, J, h⟩ := bns h;refine to (nL (m := 0) (q := g.toNat) (v := w4) (aG rfl) rfl rfl rfl rfl (wD J) bA.of) ?_;refine ta (.d (.lit (eG w4 g.toNat))) (aD ?_);obtain rfl := sIn h;exact aU ⟨rfl, _, [.arr (eG w4 g.toNat) 42 5 ((n.take g.toNat).map aA)], [], _, .one (.tmp 2 (v := .d (.lit (eG w4 g.toNat))) rfl), .refl _, .same _, (eG w4 g.toNat), rfl, rfl⟩
    ·refine dG ?_;simp only [kF] at h;refine aC (tm (.i c) (to (sar rfl rfl rfl) (ta (.i (w64 (c + 1))) (aD ?_))));exact ⟨(w64 (c + 1), p, w4), h, aN [0] rfl rfl (aK rfl (aK rfl (aO trivial)))⟩
  ·refine bX ?_;refine .inl ⟨rfl, ?_⟩;simp only [kE] at h;refine aE (aC (tm (.d (.lit w4)) (ta (.d (.lit w4)) (aD ?_))));obtain rfl := sIn h;exact aU ⟨rfl, _, [.arr w4 42 5 (p.map aA)], [], _, .one (.tmp 2 (v := .d (.lit w4)) rfl), .refl _, .same _, w4, rfl, rfl⟩

theorem vY (e : List aB) {r : (List aB) × Bool} (h : lO e = some r) : eS Try.prog 62 [.d (.sl 5 (e.map aA))] [] (fun r' o' => ∃ (w0 : Value), r' = .tup [.d (.lit w0), .b r.2] ∧ o' = [.arr w0 42 5 (r.1.map aA)]) := by
 unfold lO at h;refine kI Try.func62 rfl (rs := [.tmp 2, .tmp 3]) Try.results62 Try.ntmps62 (Nat.le_of_ble_eq_true rfl) ?_;refine aE (aC (to (hY 42 5 (.inl rfl) (aG rfl)) ?_));refine ta (.b false) (aD (aE (aC (tm (.d (.sl 5 (e.map aA))) ?_))));obtain ⟨r2, h3, h⟩ := bns h;refine aZ rfl (pN (aG rfl) (.func _ _ Try.call91) rfl rfl (nY _ h3)) ?_;rintro _ ⟨v4, rfl⟩;refine ta (.d (.lit v4)) (aD (aE (aC (tm (.d (.lit v4)) ?_))));obtain ⟨r7, h8, h⟩ := bns h;refine eY (aN [1, 0] rfl rfl (le_refl _)) ?_;refine aZ rfl (cR (passed := [.arr v4 42 5 (r2.map aA)]) (aG rfl) rfl (.func _ _ Try.call92) rfl rfl (lH r2 (fun y5 y6 => oD y5 y6) 93 [] Try.call93 (fun _ _ _ h => aCp _ _ h) h8)) ?_;rintro _ ⟨_, _, ⟨rfl, rfl⟩, rfl⟩;refine aD (aE (aC (tm (.d (.lit v4)) ?_)));obtain ⟨r9, o, h⟩ := bns h;refine aZ rfl (cR (passed := [.arr v4 42 5 (r7.map aA)]) (aG rfl) rfl (.func _ _ Try.call94) rfl rfl (tA r7 o)) ?_;rintro _ ⟨_, _, ⟨c, rfl, rfl⟩, rfl⟩;refine ta (.d (.lit c)) (aD (aE (aE (aC (ta (.i 1) (aD (bB ?_)))))));refine bN (S := Int) [4] (fun f => [(5, .i f)]) (fun f => [.arr c 42 5 (r9.map aA)]) (fun k f => gA r9 k f) (fun _ => rfl) (1) h (aN [0] rfl rfl (aK rfl (aO ⟨rfl, trivial⟩))) ?_;rintro s a h;simp only [gA] at h;refine aE (aE (aC (tm (.i a) (tm (.d (.lit c)) (to (jI (m := 0) (aG rfl) rfl rfl bA.of) ?_)))));refine to (scm rfl rfl rfl) (aD ?_);refine tih h (fun p h => ?_) (fun p h => ?_)
 ·refine aS (aE (bB (aE ?_)));obtain ⟨g, j, h⟩ := bns h;obtain ⟨l, n, h⟩ := bns h;refine fI mix 11 [4, 5] [(22, .i g.Id), (28, .i l.Id)] ?_ ?_
  ·refine ⟨[(18, 0, .d (.lit c)), (19, 1, .i a), (20, 2, .ep c 5 a.toNat 0), (21, 3, .ep c 5 a.toNat 0), (22, 4, .i g.Id), (23, 5, .d (.lit c)), (24, 6, .i a), (25, 7, .i (w64 (a - 1))), (26, 8, .ep c 5 (w64 (a - 1)).toNat 0), (27, 9, .ep c 5 (w64 (a - 1)).toNat 0), (28, 10, .i l.Id)], ?_, ?_⟩
   · exact dok [([], []), ([], []), ([0, 1], []), ([2], []), ([3], []), ([], []), ([], []), ([6], []), ([5, 7], []), ([8], []), ([9], [])] ⟨go (zm (.d (.lit c))),
      go (zm (.i a)),
      go (zia 0 rfl rfl rfl bA.of (aX aA j)),
      go fun S hS => aBb (aG rfl) (aL hS rfl) lC,
      go fun S hS => aCm (aG rfl) (aL hS rfl) (m := 0) rfl (cY aA j) rfl aT,
      go (zm (.d (.lit c))),
      go (zm (.i a)),
      go (zar rfl rfl rfl),
      go (zia 0 rfl rfl rfl bA.of (aX aA n)),
      go fun S hS => aBb (aG rfl) (aL hS rfl) lC,
      go fun S hS => aCm (aG rfl) (aL hS rfl) (m := 0) rfl (cY aA n) rfl aT, trivial⟩
   · exact cW (aK rfl (aK rfl (aO ⟨rfl, rfl, trivial⟩)))
  ·refine to (scm rfl rfl rfl) (aD ?_);refine tih h (fun q h => ?_) (fun q h => ?_)
   ·refine aE (aC (to (hY 42 5 (.inl rfl) (aG rfl)) ?_));refine ta (.b false) (aD ?_);obtain rfl := sIn h;refine bP (aN [1, 0] rfl rfl (le_refl _)) ?_;exact aU ⟨rfl, _, [.arr (.slice none 0 0) 42 5 (([] : List aB).map aA)], [.arr c 42 5 (r9.map aA)], _, .two (.tmp 2 (v := .d (.lit (.slice none 0 0))) rfl) (.tmp 3 (v := .b false) rfl), .refl _, .same _, (.slice none 0 0), rfl, rfl⟩
   ·refine dG ?_;refine aC (tm (.i a) (to (sar rfl rfl rfl) (ta (.i (w64 (a + 1))) (aD ?_))));exact ⟨(w64 (a + 1)), h, aN [0] rfl rfl (aK rfl (aO ⟨rfl, trivial⟩))⟩
 ·refine bX ?_;refine .inl ⟨rfl, ?_⟩;simp only [uU] at h;refine aE (aC (tm (.d (.lit c)) (ta (.d (.lit c)) (ta (.b true) (aD ?_)))));obtain rfl := sIn h;exact aU ⟨rfl, _, [.arr c 42 5 (r9.map aA)], [], _, .two (.tmp 2 (v := .d (.lit c)) rfl) (.tmp 3 (v := .b true) rfl), .refl _, .same _, c, rfl, rfl⟩

theorem uP (a : aH) {r : Int} (h : mO a = some r) : Fn Try.prog 60 [.agg (aI a)] (.i r) := by
 unfold mO at h;refine Fn.of_tr Try.func60 rfl (rs := [.tmp 2]) Try.results60 Try.ntmps60 (Nat.le_of_ble_eq_true rfl) ?_;refine aE (aC ?_);refine aZ rfl (eM (v := .agg (aI a)) (aG rfl) rfl rfl rfl) ?_;rintro _ ⟨b1, rfl⟩;refine ta (.i 0) (aD (aE (aE (aC (to (sla 0 (aI a) rfl rfl cK) ?_)))));obtain ⟨r2, h3, h⟩ := bns h;refine to (scr Try.call89 (aAy _ h3)) (to (sn rfl) (aD ?_));refine tih h (fun c4 h => ?_) (fun c4 h => ?_)
 ·refine aE (aC (ta (.i 40) (aD ?_)));obtain rfl := sIn h;refine bP (bG (bK (l := [2]) ⟨rfl, trivial⟩)) ?_;exact aU ⟨rfl, _, .one _, rfl, rfl⟩
 ·refine aS (aE (aE (aC (tfl 0 rfl rfl bO rfl cZ ?_))));obtain ⟨r5, h6, h⟩ := bns h;refine aZ rfl (cR (passed := []) (aG rfl) rfl (.func _ _ Try.call62) rfl rfl (vY _ h6)) ?_;rintro _ ⟨_, _, ⟨w7, rfl, rfl⟩, rfl⟩;refine tm (.tup [.d (.lit w7), .b r5.2]) (to (sex rfl rfl) (to (sex rfl rfl) (ta (.d (.lit w7)) (ta (.b r5.2) (aD (aE (aC (tm (.b r5.2) (to (sn rfl) (aD ?_))))))))));refine tih h (fun c8 h => ?_) (fun c8 h => ?_)
  ·refine aE (aC (ta (.i 41) (aD ?_)));obtain rfl := sIn h;refine bP (bG (bK (l := [2]) ⟨rfl, trivial⟩)) ?_;exact aU ⟨rfl, _, .one _, rfl, rfl⟩
  ·refine aS (aE (aC (ta (.i 0) (aD ?_))));obtain rfl := sIn h;refine bP (bG (bK (l := [2]) ⟨rfl, trivial⟩)) ?_;exact aU ⟨rfl, _, .one _, rfl, rfl⟩

theorem aEr (a : aH) {r : (Option bD) × Int} (h : sV a = some r) : eS Try.prog 80 [.agg (aI a)] [] (fun r' o' => ∃ (b : Nat) (w0 : Value), r' = .tup [(match r.1 with | none => .d (.lit (.pointer none)) | some _ => .bp b 0 0), .i r.2] ∧ o' = (match r.1 with | none => [] | some x => [.box b 0 [.lit (.int .i64 x.Ledger.Players), .lit (.int .i64 x.Ledger.Counts), .lit w0, .sl 3 (x.Ledger.Bans.map aF), .sl 3 (x.Ledger.Frozen.map aF)], .arr w0 42 5 (x.Ledger.Reports.map aA)])) := by
 unfold sV at h;refine kI Try.func80 rfl (rs := [.tmp 2, .tmp 3]) Try.results80 Try.ntmps80 (Nat.le_of_ble_eq_true rfl) ?_;refine aE (aC ?_);refine aZ rfl (eM (v := .agg (aI a)) (aG rfl) rfl rfl rfl) ?_;rintro _ ⟨b1, rfl⟩;refine ta (qK bH (none : Option bD)) (ta (.i 0) (aD (aE (aE (aC (to (sla 0 (aI a) rfl rfl cK) ?_))))));obtain ⟨r2, h3, h⟩ := bns h;refine to (scr Try.call60 (uP _ h3)) (ta (.i r2) (aD (aE (aC (tm (.i r2) (to (scm rfl rfl rfl) (aD ?_)))))));refine tih h (fun c4 h => ?_) (fun c4 h => ?_)
 ·refine aE (aC (tm (.i r2) (ta (qK bH (none : Option bD)) (ta (.i r2) (aD ?_)))));obtain rfl := sIn h;exact aU ⟨rfl, _, [], [.box b1 0 (aI a)], _, .two (.tmp 2 (v := qK bH (none : Option bD)) rfl) (.tmp 3 (v := .i r2) rfl), .refl _, .same _, 0, undef, rfl, rfl⟩
 ·refine aS (aE (aC (tfl 0 rfl rfl bO rfl cZ ?_)));obtain ⟨r5, h6, h⟩ := bns h;refine aZ rfl (cR (passed := []) (aG rfl) rfl (.func _ _ Try.call62) rfl rfl (vY _ h6)) ?_;rintro _ ⟨_, _, ⟨w7, rfl, rfl⟩, rfl⟩;refine tm (.tup [.d (.lit w7), .b r5.2]) (to (sex rfl rfl) (to (sex rfl rfl) (to (sf rfl bO) (to (sst 1 rfl rfl Try.sizeOf22 [.lit (.int .i64 a.Players), .lit (.int .i64 a.Counts), .lit w7, .sl 3 (a.Bans.map aF), .sl 3 (a.Frozen.map aF)]) (aD (aE (aC (to (sla 1 [.lit (.int .i64 a.Players), .lit (.int .i64 a.Counts), .lit w7, .sl 3 (a.Bans.map aF), .sl 3 (a.Frozen.map aF)] rfl rfl cK) (to (jQ (aG rfl) aKj (zs := [.lit (.int .i64 0), .lit (.int .i64 0), .sl 5 ((([] : List aB)).map aA), .sl 3 ((([] : List aJ)).map aF), .sl 3 ((([] : List aJ)).map aF)]) rfl rfl rfl rfl (es := [.lit (.int .i64 a.Players), .lit (.int .i64 a.Counts), .lit w7, .sl 3 (a.Bans.map aF), .sl 3 (a.Frozen.map aF)]) rfl) ?_)))))))));refine aZ rfl (eM (v := .agg [.lit (.int .i64 a.Players), .lit (.int .i64 a.Counts), .lit w7, .sl 3 (a.Bans.map aF), .sl 3 (a.Frozen.map aF)]) (aG rfl) rfl rfl rfl) ?_;rintro _ ⟨b8, rfl⟩;refine ta (.bp b8 0 0) (ta (.i 0) (aD ?_));obtain rfl := sIn h;refine bP (aN [2, 0, 1] rfl rfl (le_refl _)) ?_;exact aU ⟨rfl, _, [.box b8 0 [.lit (.int .i64 a.Players), .lit (.int .i64 a.Counts), .lit w7, .sl 3 (a.Bans.map aF), .sl 3 (a.Frozen.map aF)], .arr w7 42 5 (r5.1.map aA)], [.box b1 0 [.lit (.int .i64 a.Players), .lit (.int .i64 a.Counts), .lit w7, .sl 3 (a.Bans.map aF), .sl 3 (a.Frozen.map aF)]], _, .two (.tmp 2 (v := .bp b8 0 0) rfl) (.tmp 3 (v := .i 0) rfl), .refl _, .same _, b8, w7, rfl, rfl⟩

theorem tS (c : aH) (a : Int) (e : Int) {r : (Option bD) × Int} (h : oX c a e = some r) : eS Try.prog 44 [.agg (aI c), .i a, .i e] [] (fun r' o' => ∃ (b : Nat) (w0 : Value), r' = .tup [(match r.1 with | none => .d (.lit (.pointer none)) | some _ => .bp b 0 0), .i r.2] ∧ o' = (match r.1 with | none => [] | some x => [.box b 0 [.lit (.int .i64 x.Ledger.Players), .lit (.int .i64 x.Ledger.Counts), .lit w0, .sl 3 (x.Ledger.Bans.map aF), .sl 3 (x.Ledger.Frozen.map aF)], .arr w0 42 5 (x.Ledger.Reports.map aA)])) := by
 unfold oX at h;refine kI Try.func44 rfl (rs := [.tmp 6, .tmp 7]) Try.results44 Try.ntmps44 (Nat.le_of_ble_eq_true rfl) ?_;refine aE (aC ?_);refine aZ rfl (eM (v := .agg (aI c)) (aG rfl) rfl rfl rfl) ?_;rintro _ ⟨b1, rfl⟩;refine ta (qK bH (none : Option bD)) (ta (.i 0) (aD (aE (aC (to (sla 0 (aI c) rfl rfl cK) ?_)))));obtain ⟨r2, h3, h⟩ := bns h;refine aZ rfl (cR (passed := []) (aG rfl) rfl (.func _ _ Try.call80) rfl rfl (aEr _ h3)) ?_;rintro _ ⟨_, _, ⟨b5, w6, rfl, rfl⟩, rfl⟩;obtain ⟨_ | y4, e7⟩ := r2
 ·have h := yG h;refine eY (aN [0] rfl rfl (le_refl _)) ?_;refine tm (.tup [.d (.lit (.pointer none)), .i e7]) (to (sex rfl rfl) (to (sex rfl rfl) (ta (.d (.lit (.pointer none))) (ta (.i e7) (aD (aE (aE (aC (tm (.i e7) (to (scm rfl rfl rfl) (aD ?_)))))))))));refine tih h (fun c8 h => ?_) (fun c8 h => ?_)
  ·refine aE (aC (tm (.i e7) (ta (qK bH (none : Option bD)) (ta (.i e7) (aD ?_)))));obtain rfl := sIn h;exact aU ⟨rfl, _, [], [.box b1 0 (aI c)], _, .two (.tmp 6 (v := qK bH (none : Option bD)) rfl) (.tmp 7 (v := .i e7) rfl), .refl _, .same _, 0, undef, rfl, rfl⟩
  ·refine aS (aE (aE (aC (tm (.i a) (tfl 0 rfl rfl iJ rfl aT (to (sar rfl rfl rfl) ?_))))));obtain ⟨r9, l, h⟩ := bns h;refine to (scr Try.call47 (dY _ _ _ l)) (to (sn rfl) (tm (.b (!r9)) ?_));obtain ⟨m, j, h⟩ := bns h;refine aW 4 [8] 28 m ?_ ?_
   ·refine bch j (fun f j => ?_) (fun f j => ?_)
    ·refine tp f (tp f (tp f (to (spt (.b true) f) ?_)));obtain rfl := sIn j;refine aD (aM rfl ⟨rfl, trivial⟩ rfl)
    ·refine tk f (sm (.i e)) ?_;obtain ⟨n, o, j⟩ := bns j;refine tk f (scr Try.call47 (dY _ _ _ o)) (tk f (sn rfl) (to (spf (.b (!n)) f) ?_));obtain rfl := sIn j;refine aD (aM rfl ⟨rfl, trivial⟩ rfl)
   ·refine aD ?_;refine tih h (fun p h => ?_) (fun p h => ?_)
    ·refine aE (aC (ta (qK bH (none : Option bD)) (ta (.i 1) (aD ?_))));obtain rfl := sIn h;exact aU ⟨rfl, _, [], [.box b1 0 (aI c)], _, .two (.tmp 6 (v := qK bH (none : Option bD)) rfl) (.tmp 7 (v := .i 1) rfl), .refl _, .same _, 0, undef, rfl, rfl⟩
    ·refine aS (aE (aC (tm (.d (.lit (.pointer none))) (ta (.d (.lit (.pointer none))) (ta (.i 0) (aD ?_))))));obtain rfl := sIn h;exact aU ⟨rfl, _, [], [.box b1 0 (aI c)], _, .two (.tmp 6 (v := .d (.lit (.pointer none))) rfl) (.tmp 7 (v := .i 0) rfl), .refl _, .same _, 0, undef, rfl, rfl⟩
 ·have h := yH h;refine eY (aN [0, 1, 2] rfl rfl (le_refl _)) ?_;refine tm (.tup [.bp b5 0 0, .i e7]) (to (sex rfl rfl) (to (sex rfl rfl) (ta (.bp b5 0 0) (ta (.i e7) (aD (aE (aE (aC (tm (.i e7) (to (scm rfl rfl rfl) (aD ?_)))))))))));refine tih h (fun q h => ?_) (fun q h => ?_)
  ·refine aE (aC (tm (.i e7) (ta (qK bH (none : Option bD)) (ta (.i e7) (aD ?_)))));obtain rfl := sIn h;exact aU ⟨rfl, _, [], [.box b5 0 [.lit (.int .i64 y4.Ledger.Players), .lit (.int .i64 y4.Ledger.Counts), .lit w6, .sl 3 (y4.Ledger.Bans.map aF), .sl 3 (y4.Ledger.Frozen.map aF)], .arr w6 42 5 (y4.Ledger.Reports.map aA), .box b1 0 (aI c)], _, .two (.tmp 6 (v := qK bH (none : Option bD)) rfl) (.tmp 7 (v := .i e7) rfl), .refl _, .same _, 0, undef, rfl, rfl⟩
  ·refine aS (aE (aE (aC (tm (.i a) (tfl 2 rfl rfl iJ rfl aT (to (sar rfl rfl rfl) ?_))))));obtain ⟨s, t, h⟩ := bns h;refine to (scr Try.call47 (dY _ _ _ t)) (to (sn rfl) (tm (.b (!s)) ?_));obtain ⟨u, k, h⟩ := bns h;refine aW 4 [8] 28 u ?_ ?_
   ·refine bch k (fun g k => ?_) (fun g k => ?_)
    ·refine tp g (tp g (tp g (to (spt (.b true) g) ?_)));obtain rfl := sIn k;refine aD (aM rfl ⟨rfl, trivial⟩ rfl)
    ·refine tk g (sm (.i e)) ?_;obtain ⟨w, y, k⟩ := bns k;refine tk g (scr Try.call47 (dY _ _ _ y)) (tk g (sn rfl) (to (spf (.b (!w)) g) ?_));obtain rfl := sIn k;refine aD (aM rfl ⟨rfl, trivial⟩ rfl)
   ·refine aD ?_;refine tih h (fun z h => ?_) (fun z h => ?_)
    ·refine aE (aC (ta (qK bH (none : Option bD)) (ta (.i 1) (aD ?_))));obtain rfl := sIn h;exact aU ⟨rfl, _, [], [.box b5 0 [.lit (.int .i64 y4.Ledger.Players), .lit (.int .i64 y4.Ledger.Counts), .lit w6, .sl 3 (y4.Ledger.Bans.map aF), .sl 3 (y4.Ledger.Frozen.map aF)], .arr w6 42 5 (y4.Ledger.Reports.map aA), .box b1 0 (aI c)], _, .two (.tmp 6 (v := qK bH (none : Option bD)) rfl) (.tmp 7 (v := .i 1) rfl), .refl _, .same _, 0, undef, rfl, rfl⟩
    ·refine aS (aE (aC (tm (.bp b5 0 0) (ta (.bp b5 0 0) (ta (.i 0) (aD ?_))))));obtain rfl := sIn h;exact aU ⟨rfl, _, [.box b5 0 [.lit (.int .i64 y4.Ledger.Players), .lit (.int .i64 y4.Ledger.Counts), .lit w6, .sl 3 (y4.Ledger.Bans.map aF), .sl 3 (y4.Ledger.Frozen.map aF)], .arr w6 42 5 (y4.Ledger.Reports.map aA)], [.box b1 0 (aI c)], _, .two (.tmp 6 (v := .bp b5 0 0) rfl) (.tmp 7 (v := .i 0) rfl), .refl _, .same _, b5, w6, rfl, rfl⟩

theorem vJ (b : bD) (e : aB) (a : Int) {r : Int} (h : mH b e a = some r) : Fn Try.prog 77 [.cp (bH b), .agg (aA e), .i a] (.i r) := by
 unfold mH at h;refine Fn.of_tr Try.func77 rfl (rs := [.tmp 6]) Try.results77 Try.ntmps77 (Nat.le_of_ble_eq_true rfl) ?_;refine aE (aC ?_);refine aZ rfl (eM (v := .agg (aA e)) (aG rfl) rfl rfl rfl) ?_;rintro _ ⟨b1, rfl⟩;refine ta (.i 0) (aD (aE (aC (tm (.i a) (tfl 0 rfl rfl nC rfl aT (to (sar rfl rfl rfl) (ta (.i (w64 (a - e.Week))) (aD (aE (aE (aC (tm (.cp [.lit (.int .i64 b.Ledger.Players), .lit (.int .i64 b.Ledger.Counts), .sl 5 (b.Ledger.Reports.map aA), .sl 3 (b.Ledger.Bans.map aF), .sl 3 (b.Ledger.Frozen.map aF)]) ?_))))))))))));refine to (pO (aG rfl) rfl) ?_;refine to (sfc [.lit (.int .i64 b.Ledger.Players), .lit (.int .i64 b.Ledger.Counts), .sl 5 (b.Ledger.Reports.map aA), .sl 3 (b.Ledger.Bans.map aF), .sl 3 (b.Ledger.Frozen.map aF)] rfl iK) (to (sfc [.sl 3 (b.Ledger.Frozen.map aF)] rfl gN) (to (slc rfl eZ) (to (sle rfl dJ.of) (tm (.i 0) (aD (bB ?_))))));refine bN (S := Int × Int) [2, 4, 18, 19] (fun s2 => [(7, .i s2.1), (20, .i s2.2)]) (fun s2 => [.box b1 0 (aA e)]) (fun k s2 => hH a b.Ledger.Frozen (b.Ledger.Frozen.length : Int) e k s2.1 s2.2) (fun _ => rfl) (w64 (a - e.Week), 0) h (aN [0] rfl rfl (aK rfl (aK rfl (aO ⟨rfl, rfl, rfl, rfl, trivial⟩)))) ?_;rintro k3 ⟨c, d⟩ h;simp only [hH] at h;refine aE (aC (to (scm rfl rfl rfl) (aD (aE ?_))));refine tih h (fun c4 h => ?_) (fun c4 h => ?_)
 ·refine aS (aE (bB (aE (aC ?_))));obtain ⟨x5, h6, h⟩ := bns h;refine to (six rfl rfl dJ.of (aX aF h6)) (to (sK (aF x5) rfl rC) ?_);refine aZ rfl (dK (zs := [.lit (.int .i64 0), .lit (.int .i64 0), .lit (.int .i64 0)]) (aG rfl) Try.zeroValue66 rfl rfl) ?_;rintro _ ⟨b7, rfl⟩;refine to (sst 1 rfl rfl Try.sizeOf66 (aF x5)) (aD (aE (aC (tfl 1 rfl rfl lU rfl aT (tfl 0 rfl rfl qR rfl aT (to (scm rfl rfl rfl) (aD ?_)))))));refine tih h (fun c8 h => ?_) (fun c8 h => ?_)
  ·refine aC (tm (.i c) (tfl 1 rfl rfl lV rfl aT (tm (.i a) (to (aGd (aG rfl) rfl rfl) ?_))));refine tfl 1 rfl rfl kB rfl aT (tfl 0 rfl rfl nC rfl aT (to (sar rfl rfl rfl) (to (aCx (aG rfl) rfl rfl) ?_)));refine to (sar rfl rfl rfl) (to (sar rfl rfl rfl) (to (aCx (aG rfl) rfl rfl) ?_));refine to (sar rfl rfl rfl) (ta (.i (w64 (c - (max 0 (w64 ((w64 ((min x5.To a) - (max x5.From (w64 (e.Week + 1))))) + 1)))))) ?_);refine dE ?_;refine aC (to (sar rfl rfl rfl) (tm (.i (w64 (d + 1))) (aD ?_)));exact ⟨(w64 (c - (max 0 (w64 ((w64 ((min x5.To a) - (max x5.From (w64 (e.Week + 1))))) + 1)))), w64 (d + 1)), h, aN [0] rfl rfl (aK rfl (aK rfl (aO ⟨rfl, rfl, rfl, rfl, trivial⟩)))⟩
  ·refine dG ?_;refine aC (to (sar rfl rfl rfl) (tm (.i (w64 (d + 1))) (aD ?_)));exact ⟨(c, w64 (d + 1)), h, aN [0] rfl rfl (aK rfl (aK rfl (aO ⟨rfl, rfl, rfl, rfl, trivial⟩)))⟩
 ·refine bX ?_;refine .inl ⟨rfl, ?_⟩;simp only [qW] at h;refine aE (aC (tm (.i c) (ta (.i c) (aD ?_))));obtain rfl := sIn h;refine bP (bG (bK (l := [6]) ⟨rfl, trivial⟩)) ?_;exact aU ⟨rfl, _, .one _, rfl, rfl⟩

theorem aCo (a : aJ) (c : Int) (d : Int) {r : Bool} (h : qE a c d = some r) : Fn Try.prog 83 [.agg (aF a), .cp [.lit (.int .i64 c)], .cp [.lit (.int .i64 d)]] (.b r) := by
 unfold qE at h;refine Fn.of_tr Try.func83 rfl (rs := [.tmp 4]) Try.results83 Try.ntmps83 (Nat.le_of_ble_eq_true rfl) ?_;refine aE (aC ?_);refine aZ rfl (eM (v := .agg (aF a)) (aG rfl) rfl rfl rfl) ?_;rintro _ ⟨b1, rfl⟩;refine ta (.b false) (aD (aE (aC (tfl 0 rfl rfl lU rfl aT (to (slc rfl aT) (to (scm rfl rfl rfl) (tm (.b (decide (a.Player = c))) ?_)))))));obtain ⟨b2, h3, h⟩ := bns h;refine aW 7 [] 16 b2 ?_ ?_
 ·refine bch h3 (fun c4 h3 => ?_) (fun c4 h3 => ?_)
  ·refine tk c4 (slc rfl aT) (tkl 0 c4 rfl rfl kB rfl aT (tkl 0 c4 rfl rfl lV rfl aT ?_));obtain ⟨r5, h6, h3⟩ := bns h3;refine tk c4 (scr Try.call47 (dY _ _ _ h6)) (to (spt (.b r5) c4) ?_);obtain rfl := sIn h3;refine aD (aM rfl trivial rfl)
  ·refine tp c4 (tp c4 (tp c4 (tp c4 (tp c4 (tp c4 (to (spf (.b false) c4) ?_))))));obtain rfl := sIn h3;refine aD (aM rfl trivial rfl)
 ·refine ta (.b b2) (aD ?_);obtain rfl := sIn h;refine bP (bG (bK (l := [4]) ⟨rfl, trivial⟩)) ?_;exact aU ⟨rfl, _, .one _, rfl, rfl⟩

theorem vX (e : List aJ) (a : Int) (c : Int) {r : Bool} (h : mP e a c = some r) : Fn Try.prog 48 [.d (.sl 3 (e.map aF)), .i a, .i c] (.b r) := by
 unfold mP at h;refine Fn.of_tr Try.func48 rfl (rs := [.tmp 6]) Try.results48 Try.ntmps48 (Nat.le_of_ble_eq_true rfl) ?_;refine aE (aC ?_);refine aZ rfl (eM (v := .i a) (aG rfl) rfl rfl rfl) ?_;rintro _ ⟨b1, rfl⟩;refine aZ rfl (eM (v := .i c) (aG rfl) rfl rfl rfl) ?_;rintro _ ⟨b2, rfl⟩;refine ta (.b false) (aD (aE (aC (tm (.d (.sl 3 (e.map aF))) (to (yL (aG rfl) rfl rfl) ?_)))));obtain ⟨r4, h5, h⟩ := bns h;refine to (sc Try.call82 (iV _ _ 83 [.cp [.lit (.int .i64 a)], .cp [.lit (.int .i64 c)]] Try.call83 (fun _ _ h => aCo _ _ _ h) h5) (.cons (.same _) (.cons (aCv (.cons (nQ 0 rfl rfl (dvc (.same _) dvn)) (.cons (nQ 1 rfl rfl (dvc (.same _) dvn)) .nil))) .nil))) (ta (.b r4) (aD ?_));obtain rfl := sIn h;refine bP (bG (bK (l := [6]) ⟨rfl, trivial⟩)) ?_;exact aU ⟨rfl, _, .one _, rfl, rfl⟩

theorem tK (c : bD) (a : Int) (e : Int) {r : (List aB)} (h : kY c a e = some r) : Fn Try.prog 72 [.cp (bH c), .i a, .i e] (.d (.sl 5 (r.map aA))) := by
 unfold kY at h;refine Fn.of_tr Try.func72 rfl (rs := [.tmp 6]) Try.results72 Try.ntmps72 (Nat.le_of_ble_eq_true rfl) ?_;refine aE (aC (to (vP 5 (aG rfl)) ?_));refine aD (aE (aC (to (hY 42 5 (.inl rfl) (aG rfl)) ?_)));refine aD (aE (aE (aC (tm (.cp [.lit (.int .i64 c.Ledger.Players), .lit (.int .i64 c.Ledger.Counts), .sl 5 (c.Ledger.Reports.map aA), .sl 3 (c.Ledger.Bans.map aF), .sl 3 (c.Ledger.Frozen.map aF)]) (to (pO (aG rfl) rfl) ?_)))));refine to (sfc [.lit (.int .i64 c.Ledger.Players), .lit (.int .i64 c.Ledger.Counts), .sl 5 (c.Ledger.Reports.map aA), .sl 3 (c.Ledger.Bans.map aF), .sl 3 (c.Ledger.Frozen.map aF)] rfl iK) (to (sfc [.sl 5 (c.Ledger.Reports.map aA)] rfl bO) (to (slc rfl cZ) (to (sle rfl bA.of) (tm (.i 0) (aD (bB ?_))))));refine bN (S := Int × (List aB) × Value) [0, 1, 2, 14, 15] (fun s2 => [(7, .d (.lit s2.2.2)), (16, .i s2.1)]) (fun s2 => [.arr s2.2.2 42 5 (s2.2.1.map aA)]) (fun k s2 => fV c a e c.Ledger.Reports (c.Ledger.Reports.length : Int) k s2.1 s2.2.1) (fun _ => rfl) (0, ([] : List aB), (.slice none 0 0)) h (aN [0] rfl rfl (aK rfl (aK rfl (aO ⟨rfl, rfl, rfl, rfl, rfl, trivial⟩)))) ?_;rintro k4 ⟨o, q, w3⟩ h;simp only [fV] at h;refine aE (aC (to (scm rfl rfl rfl) (aD (aE ?_))));refine tih h (fun c5 h => ?_) (fun c5 h => ?_)
 ·refine aS (aE (bB (aE (aC ?_))));obtain ⟨x6, h7, h⟩ := bns h;refine to (six rfl rfl bA.of (aX aA h7)) (to (sK (aA x6) rfl cS) ?_);refine aZ rfl (dK (zs := [.lit (.int .i64 0), .lit (.int .i64 0), .lit (.int .i64 0), .lit (.int .i64 0), .lit (.bool false)]) (aG rfl) Try.zeroValue42 rfl rfl) ?_;rintro _ ⟨b8, rfl⟩;refine to (sst 1 rfl rfl Try.sizeOf42 (aA x6)) (aD (aE ?_));obtain ⟨b9, s, h⟩ := bns h;obtain ⟨C, p, h⟩ := bns h;obtain ⟨x, m, h⟩ := bns h;refine fI mix 29 [0, 1, 2, 7, 9, 14, 15, 16] [(48, .b x)] ?_ ?_
  ·refine bch s (fun l s => ?_) (fun l s => ?_)
   ·obtain rfl := sIn s;refine bch p (fun j p => ?_) (fun j p => ?_)
    ·obtain ⟨n, u, p⟩ := bns p;obtain rfl := sIn p;refine bch m (fun g m => ?_) (fun g m => ?_)
     ·obtain ⟨t, y, m⟩ := bns m;obtain rfl := sIn m;refine ⟨[(20, 0, .bp b8 0 1), (21, 1, .i x6.Player), (22, 2, .i a), (23, 3, .b (decide (x6.Player = a))), (24, 4, .b (decide (x6.Player = a))), (25, 5, .bp b8 0 2), (26, 6, .i x6.Week), (27, 7, .i e), (28, 8, .b (decide (x6.Week ≤ e))), (29, 9, .b (decide (x6.Week ≤ e))), (30, 10, .b (decide (x6.Week ≤ e))), (31, 11, .cp [.lit (.int .i64 c.Ledger.Players), .lit (.int .i64 c.Ledger.Counts), .sl 5 (c.Ledger.Reports.map aA), .sl 3 (c.Ledger.Bans.map aF), .sl 3 (c.Ledger.Frozen.map aF)]), (32, 12, .agg (aA x6)), (33, 13, .i e), (34, 14, .i n), (35, 15, .b (decide (n < 52))), (36, 16, .b (decide (n < 52))), (37, 17, .b (decide (n < 52))), (38, 18, .cp [.lit (.int .i64 c.Ledger.Players), .lit (.int .i64 c.Ledger.Counts), .sl 5 (c.Ledger.Reports.map aA), .sl 3 (c.Ledger.Bans.map aF), .sl 3 (c.Ledger.Frozen.map aF)]), (39, 19, .cp [.lit (.int .i64 c.Ledger.Players), .lit (.int .i64 c.Ledger.Counts), .sl 5 (c.Ledger.Reports.map aA), .sl 3 (c.Ledger.Bans.map aF), .sl 3 (c.Ledger.Frozen.map aF)]), (40, 20, .cp [.lit (.int .i64 c.Ledger.Players), .lit (.int .i64 c.Ledger.Counts), .sl 5 (c.Ledger.Reports.map aA), .sl 3 (c.Ledger.Bans.map aF), .sl 3 (c.Ledger.Frozen.map aF)]), (41, 21, .cp [.sl 3 (c.Ledger.Bans.map aF)]), (42, 22, .d (.sl 3 (c.Ledger.Bans.map aF))), (43, 23, .i a), (44, 24, .bp b8 0 2), (45, 25, .i x6.Week), (46, 26, .b t), (47, 27, .b (!t)), (48, 28, .b (!t))], ?_, ?_⟩
      · exact dok [([], []), ([0], []), ([], []), ([1, 2], []), ([3], []), ([4], []), ([4, 5], []), ([4], []), ([4, 6, 7], []), ([4, 8], []), ([9], []), ([10], []), ([10], []), ([10], []), ([10, 11, 12, 13], []), ([10, 14], []), ([10, 15], []), ([16], []), ([17], []), ([17, 18], []), ([17, 19], []), ([17, 20], []), ([17, 21], []), ([17], []), ([17], []), ([17, 24], []), ([17, 22, 23, 25], []), ([17, 26], []), ([17, 27], [])] ⟨go (zf rfl qR),
      go (zl 1 rfl rfl rfl aT),
      go (zm (.i a)),
      go (zcm rfl rfl rfl),
      go (zm (.b (decide (x6.Player = a)))),
      gt l (zf rfl nC),
      gt l (zl 1 rfl rfl rfl aT),
      gt l (zm (.i e)),
      gt l (zcm rfl rfl rfl),
      go (zpt (.b (decide (x6.Week ≤ e))) l),
      go (zm (.b (decide (x6.Week ≤ e)))),
      gt j (zm (.cp [.lit (.int .i64 c.Ledger.Players), .lit (.int .i64 c.Ledger.Counts), .sl 5 (c.Ledger.Reports.map aA), .sl 3 (c.Ledger.Bans.map aF), .sl 3 (c.Ledger.Frozen.map aF)])),
      gt j (zla 1 (aA x6) rfl rfl cS),
      gt j (zm (.i e)),
      gt j fun S hS => jH (aG rfl) (.func _ _ Try.call77) (ev2 (aL hS rfl) (ev2 (aL hS rfl) (ev2 (aL hS rfl) evn))) rfl (BVs.refl _ _) (vJ _ _ _ u) rfl,
      gt j (zcm rfl rfl rfl),
      go (zpt (.b (decide (n < 52))) j),
      go (zm (.b (decide (n < 52)))),
      gt g (zm (.cp [.lit (.int .i64 c.Ledger.Players), .lit (.int .i64 c.Ledger.Counts), .sl 5 (c.Ledger.Reports.map aA), .sl 3 (c.Ledger.Bans.map aF), .sl 3 (c.Ledger.Frozen.map aF)])),
      gt g fun S hS => pO (aG rfl) (aL hS rfl),
      gt g (zfc [.lit (.int .i64 c.Ledger.Players), .lit (.int .i64 c.Ledger.Counts), .sl 5 (c.Ledger.Reports.map aA), .sl 3 (c.Ledger.Bans.map aF), .sl 3 (c.Ledger.Frozen.map aF)] rfl iK),
      gt g (zfc [.sl 3 (c.Ledger.Bans.map aF)] rfl iZ),
      gt g (zlc rfl eZ),
      gt g (zm (.i a)),
      gt g (zf rfl nC),
      gt g (zl 1 rfl rfl rfl aT),
      gt g fun S hS => jH (aG rfl) (.func _ _ Try.call48) (ev2 (aL hS rfl) (ev2 (aL hS rfl) (ev2 (aL hS rfl) evn))) rfl (BVs.refl _ _) (vX _ _ _ y) rfl,
      gt g (zn rfl),
      go (zpt (.b (!t)) g), trivial⟩
      · exact cW (aK rfl (aO ⟨rfl, rfl, rfl, rfl, rfl, rfl, rfl, rfl, trivial⟩))
     ·obtain rfl := sIn m;refine ⟨[(20, 0, .bp b8 0 1), (21, 1, .i x6.Player), (22, 2, .i a), (23, 3, .b (decide (x6.Player = a))), (24, 4, .b (decide (x6.Player = a))), (25, 5, .bp b8 0 2), (26, 6, .i x6.Week), (27, 7, .i e), (28, 8, .b (decide (x6.Week ≤ e))), (29, 9, .b (decide (x6.Week ≤ e))), (30, 10, .b (decide (x6.Week ≤ e))), (31, 11, .cp [.lit (.int .i64 c.Ledger.Players), .lit (.int .i64 c.Ledger.Counts), .sl 5 (c.Ledger.Reports.map aA), .sl 3 (c.Ledger.Bans.map aF), .sl 3 (c.Ledger.Frozen.map aF)]), (32, 12, .agg (aA x6)), (33, 13, .i e), (34, 14, .i n), (35, 15, .b (decide (n < 52))), (36, 16, .b (decide (n < 52))), (37, 17, .b (decide (n < 52))), (38, 18, .tup []), (39, 19, .tup []), (40, 20, .tup []), (41, 21, .tup []), (42, 22, .tup []), (43, 23, .tup []), (44, 24, .tup []), (45, 25, .tup []), (46, 26, .tup []), (47, 27, .tup []), (48, 28, .b false)], ?_, ?_⟩
      · exact dok [([], []), ([0], []), ([], []), ([1, 2], []), ([3], []), ([4], []), ([4, 5], []), ([4], []), ([4, 6, 7], []), ([4, 8], []), ([9], []), ([10], []), ([10], []), ([10], []), ([10, 11, 12, 13], []), ([10, 14], []), ([10, 15], []), ([16], []), ([17], []), ([17, 18], []), ([17, 19], []), ([17, 20], []), ([17, 21], []), ([17], []), ([17], []), ([17, 24], []), ([17, 22, 23, 25], []), ([17, 26], []), ([17, 27], [])] ⟨go (zf rfl qR),
      go (zl 1 rfl rfl rfl aT),
      go (zm (.i a)),
      go (zcm rfl rfl rfl),
      go (zm (.b (decide (x6.Player = a)))),
      gt l (zf rfl nC),
      gt l (zl 1 rfl rfl rfl aT),
      gt l (zm (.i e)),
      gt l (zcm rfl rfl rfl),
      go (zpt (.b (decide (x6.Week ≤ e))) l),
      go (zm (.b (decide (x6.Week ≤ e)))),
      gt j (zm (.cp [.lit (.int .i64 c.Ledger.Players), .lit (.int .i64 c.Ledger.Counts), .sl 5 (c.Ledger.Reports.map aA), .sl 3 (c.Ledger.Bans.map aF), .sl 3 (c.Ledger.Frozen.map aF)])),
      gt j (zla 1 (aA x6) rfl rfl cS),
      gt j (zm (.i e)),
      gt j fun S hS => jH (aG rfl) (.func _ _ Try.call77) (ev2 (aL hS rfl) (ev2 (aL hS rfl) (ev2 (aL hS rfl) evn))) rfl (BVs.refl _ _) (vJ _ _ _ u) rfl,
      gt j (zcm rfl rfl rfl),
      go (zpt (.b (decide (n < 52))) j),
      go (zm (.b (decide (n < 52)))),
      gp g,
      gp g,
      gp g,
      gp g,
      gp g,
      gp g,
      gp g,
      gp g,
      gp g,
      gp g,
      go (zpf (.b false) g), trivial⟩
      · exact cW (aK rfl (aO ⟨rfl, rfl, rfl, rfl, rfl, rfl, rfl, rfl, trivial⟩))
    ·obtain rfl := sIn p;have g : false = false := rfl;have m := wE g m;obtain rfl := sIn m;refine ⟨[(20, 0, .bp b8 0 1), (21, 1, .i x6.Player), (22, 2, .i a), (23, 3, .b (decide (x6.Player = a))), (24, 4, .b (decide (x6.Player = a))), (25, 5, .bp b8 0 2), (26, 6, .i x6.Week), (27, 7, .i e), (28, 8, .b (decide (x6.Week ≤ e))), (29, 9, .b (decide (x6.Week ≤ e))), (30, 10, .b (decide (x6.Week ≤ e))), (31, 11, .tup []), (32, 12, .tup []), (33, 13, .tup []), (34, 14, .tup []), (35, 15, .tup []), (36, 16, .b false), (37, 17, .b (false)), (38, 18, .tup []), (39, 19, .tup []), (40, 20, .tup []), (41, 21, .tup []), (42, 22, .tup []), (43, 23, .tup []), (44, 24, .tup []), (45, 25, .tup []), (46, 26, .tup []), (47, 27, .tup []), (48, 28, .b false)], ?_, ?_⟩
     · exact dok [([], []), ([0], []), ([], []), ([1, 2], []), ([3], []), ([4], []), ([4, 5], []), ([4], []), ([4, 6, 7], []), ([4, 8], []), ([9], []), ([10], []), ([10], []), ([10], []), ([10, 11, 12, 13], []), ([10, 14], []), ([10, 15], []), ([16], []), ([17], []), ([17, 18], []), ([17, 19], []), ([17, 20], []), ([17, 21], []), ([17], []), ([17], []), ([17, 24], []), ([17, 22, 23, 25], []), ([17, 26], []), ([17, 27], [])] ⟨go (zf rfl qR),
      go (zl 1 rfl rfl rfl aT),
      go (zm (.i a)),
      go (zcm rfl rfl rfl),
      go (zm (.b (decide (x6.Player = a)))),
      gt l (zf rfl nC),
      gt l (zl 1 rfl rfl rfl aT),
      gt l (zm (.i e)),
      gt l (zcm rfl rfl rfl),
      go (zpt (.b (decide (x6.Week ≤ e))) l),
      go (zm (.b (decide (x6.Week ≤ e)))),
      gp j,
      gp j,
      gp j,
      gp j,
      gp j,
      go (zpf (.b false) j),
      go (zm (.b (false))),
      gp g,
      gp g,
      gp g,
      gp g,
      gp g,
      gp g,
      gp g,
      gp g,
      gp g,
      gp g,
      go (zpf (.b false) g), trivial⟩
     · exact cW (aK rfl (aO ⟨rfl, rfl, rfl, rfl, rfl, rfl, rfl, rfl, trivial⟩))
   ·obtain rfl := sIn s;have j : false = false := rfl;have p := wE j p;obtain rfl := sIn p;have g : false = false := rfl;have m := wE g m;obtain rfl := sIn m;refine ⟨[(20, 0, .bp b8 0 1), (21, 1, .i x6.Player), (22, 2, .i a), (23, 3, .b (decide (x6.Player = a))), (24, 4, .b (decide (x6.Player = a))), (25, 5, .tup []), (26, 6, .tup []), (27, 7, .tup []), (28, 8, .tup []), (29, 9, .b false), (30, 10, .b (false)), (31, 11, .tup []), (32, 12, .tup []), (33, 13, .tup []), (34, 14, .tup []), (35, 15, .tup []), (36, 16, .b false), (37, 17, .b (false)), (38, 18, .tup []), (39, 19, .tup []), (40, 20, .tup []), (41, 21, .tup []), (42, 22, .tup []), (43, 23, .tup []), (44, 24, .tup []), (45, 25, .tup []), (46, 26, .tup []), (47, 27, .tup []), (48, 28, .b false)], ?_, ?_⟩
    · exact dok [([], []), ([0], []), ([], []), ([1, 2], []), ([3], []), ([4], []), ([4, 5], []), ([4], []), ([4, 6, 7], []), ([4, 8], []), ([9], []), ([10], []), ([10], []), ([10], []), ([10, 11, 12, 13], []), ([10, 14], []), ([10, 15], []), ([16], []), ([17], []), ([17, 18], []), ([17, 19], []), ([17, 20], []), ([17, 21], []), ([17], []), ([17], []), ([17, 24], []), ([17, 22, 23, 25], []), ([17, 26], []), ([17, 27], [])] ⟨go (zf rfl qR),
      go (zl 1 rfl rfl rfl aT),
      go (zm (.i a)),
      go (zcm rfl rfl rfl),
      go (zm (.b (decide (x6.Player = a)))),
      gp l,
      gp l,
      gp l,
      gp l,
      go (zpf (.b false) l),
      go (zm (.b (false))),
      gp j,
      gp j,
      gp j,
      gp j,
      gp j,
      go (zpf (.b false) j),
      go (zm (.b (false))),
      gp g,
      gp g,
      gp g,
      gp g,
      gp g,
      gp g,
      gp g,
      gp g,
      gp g,
      gp g,
      go (zpf (.b false) g), trivial⟩
    · exact cW (aK rfl (aO ⟨rfl, rfl, rfl, rfl, rfl, rfl, rfl, rfl, trivial⟩))
  ·refine aD ?_;refine tih h (fun z h => ?_) (fun z h => ?_)
   ·refine aC (tm (.d (.lit w3)) (to (sla 1 (aA x6) rfl rfl cS) (to (hT (aG rfl) bA rfl rfl (rows := ([x6]).map aA) rfl (bZ (f := aA) fun _ => rfl) rfl (by decide)) ?_)));obtain ⟨A, B, h⟩ := bns h;refine aZ rfl (lP (i := 0) (aG rfl) bA rfl rfl rfl (fun _ => rfl) B rfl) ?_;rintro _ ⟨w, rfl⟩;refine ta (.d (.lit w)) ?_;refine dE ?_;refine aC (to (sar rfl rfl rfl) (tm (.i (w64 (o + 1))) (aD ?_)));exact ⟨(w64 (o + 1), A, w), h, aN [0] rfl rfl (aK rfl (aK rfl (aO ⟨rfl, rfl, rfl, rfl, rfl, trivial⟩)))⟩
   ·refine dG ?_;refine aC (to (sar rfl rfl rfl) (tm (.i (w64 (o + 1))) (aD ?_)));exact ⟨(w64 (o + 1), q, w3), h, aN [0] rfl rfl (aK rfl (aK rfl (aO ⟨rfl, rfl, rfl, rfl, rfl, trivial⟩)))⟩
 ·refine bX ?_;refine .inl ⟨rfl, ?_⟩;simp only [oY] at h;refine aE (aC (tm (.d (.lit w3)) (ta (.d (.lit w3)) (aD ?_))));obtain rfl := sIn h;refine bP (bG (eP (k := 6) (v := .d (.sl 5 (q.map aA))) (.d (fO 0 rfl (bZ (f := aA) fun _ => rfl))) (yX))) ?_;exact aU ⟨rfl, _, .one _, rfl, rfl⟩

theorem xV (a : List Int) {r : Int} (h : pH a = some r) : Fn Try.prog 99 [.d (.sl 1 (a.map bL))] (.i r) := by
 unfold pH at h;refine Fn.of_tr Try.func99 rfl (rs := [.tmp 2]) Try.results99 Try.ntmps99 (Nat.le_of_ble_eq_true rfl) ?_;refine aE (aC (ta (.i 0) (aD (aE (aC (ta (.i 0) (aD (aE (aE (aC (tm (.d (.sl 1 (a.map bL))) (to (sle rfl eN.of) (tm (.i 0) ?_)))))))))))));refine aD (bB ?_);refine bN (S := Int) [3, 6, 7] (fun s1 => [(8, .i s1)]) (fun s1 => []) (fun k s1 => lB 0 a (a.length : Int) k s1) (fun _ => rfl) (0) h (aN [] rfl rfl (aK rfl (aO ⟨rfl, rfl, rfl, trivial⟩))) ?_;rintro k2 b h;simp only [lB] at h;refine aE (aC (to (scm rfl rfl rfl) (aD (aE ?_))));refine tih h (fun c3 h => ?_) (fun c3 h => ?_)
 ·refine aS (aE (bB (aE (aC ?_))));obtain ⟨x4, h5, h⟩ := bns h;refine to (six rfl rfl eN.of (aX bL h5)) (to (slc rfl aT) (ta (.i x4) (aD (aE (aC (tm (.i x4) (tm (.i 0) (to (scm rfl rfl rfl) (aD ?_)))))))));refine tih h (fun c6 h => ?_) (fun c6 h => ?_)
  ·refine aE (aC (tm (.i x4) (ta (.i x4) (aD ?_))));obtain rfl := sIn h;exact aU ⟨rfl, _, .one _, rfl, rfl⟩
  ·refine dG ?_;refine aC (to (sar rfl rfl rfl) (tm (.i (w64 (b + 1))) (aD ?_)));exact ⟨(w64 (b + 1)), h, aN [] rfl rfl (aK rfl (aO ⟨rfl, rfl, rfl, trivial⟩))⟩
 ·refine bX ?_;refine .inl ⟨rfl, ?_⟩;simp only [tE] at h;refine aE (aC (tm (.i 0) (ta (.i 0) (aD ?_))));obtain rfl := sIn h;exact aU ⟨rfl, _, .one _, rfl, rfl⟩

theorem xO (a : aB) (c : aB) {r : Int} (h : jN a c = some r) : Fn Try.prog 98 [.agg (aA a), .agg (aA c)] (.i r) := by
 unfold jN at h;refine Fn.of_tr Try.func98 rfl (rs := [.tmp 4]) Try.results98 Try.ntmps98 (Nat.le_of_ble_eq_true rfl) ?_;refine aE (aC ?_);refine aZ rfl (eM (v := .agg (aA a)) (aG rfl) rfl rfl rfl) ?_;rintro _ ⟨b1, rfl⟩;refine aZ rfl (eM (v := .agg (aA c)) (aG rfl) rfl rfl rfl) ?_;rintro _ ⟨b2, rfl⟩;refine ta (.i 0) (aD (aE (bB (aE (aC (tfl 0 rfl rfl qS rfl tR (tfl 1 rfl rfl qS rfl tR (to (aIm (aG rfl) rfl rfl Try.underlying4) ?_))))))));refine tm (.b (!decide (a.Must = c.Must))) ?_;obtain ⟨b3, h4, h⟩ := bns h;refine aW 3 [2, 3] 14 b3 ?_ ?_
 ·refine bch h4 (fun c9 h4 => ?_) (fun c9 h4 => ?_)
  ·refine tkl 0 c9 rfl rfl qS rfl tR (to (spt (.b a.Must) c9) ?_);obtain rfl := sIn h4;refine aD (aM rfl ⟨rfl, rfl, trivial⟩ rfl)
  ·refine tp c9 (tp c9 (to (spf (.b false) c9) ?_));obtain rfl := sIn h4;refine aD (aM rfl ⟨rfl, rfl, trivial⟩ rfl)
 ·refine ta (.b b3) (aD ?_);refine tih h (fun c5 h => ?_) (fun c5 h => ?_)
  ·refine aE (aC (ta (.i (-1)) (aD ?_)));obtain rfl := sIn h;refine bP (bG (bK (l := [4]) ⟨rfl, trivial⟩)) ?_;exact aU ⟨rfl, _, .one _, rfl, rfl⟩
  ·refine aE (aC (tfl 0 rfl rfl qS rfl tR (tfl 1 rfl rfl qS rfl tR (to (aIm (aG rfl) rfl rfl Try.underlying4) ?_))));refine ta (.b (!decide (a.Must = c.Must))) (aD ?_);refine tih h (fun c6 h => ?_) (fun c6 h => ?_)
   ·refine aE (aC (ta (.i 1) (aD ?_)));obtain rfl := sIn h;refine bP (bG (bK (l := [4]) ⟨rfl, trivial⟩)) ?_;exact aU ⟨rfl, _, .one _, rfl, rfl⟩
   ·refine dG ?_;refine aE (aC (tfl 1 rfl rfl sB rfl aT (tfl 0 rfl rfl sB rfl aT (to (sar rfl rfl rfl) (tfl 0 rfl rfl lC rfl aT (tfl 1 rfl rfl lC rfl aT (to (sar rfl rfl rfl) (to (hT (aG rfl) eN rfl rfl (rows := ([w64 (c.Points - a.Points), w64 (a.Id - c.Id)]).map bL) rfl (bZ (f := bL) fun _ => rfl) rfl (by decide)) ?_))))))));obtain ⟨r7, h8, h⟩ := bns h;refine to (scr Try.call99 (xV _ h8)) (ta (.i r7) (aD ?_));obtain rfl := sIn h;refine bP (bG (bK (l := [4]) ⟨rfl, trivial⟩)) ?_;exact aU ⟨rfl, _, .one _, rfl, rfl⟩

theorem tM (b : bD) (e : List aB) {r : (List aB)} (h : kZ b e = some r) : Fn Try.prog 71 [.cp (bH b), .d (.sl 5 (e.map aA))] (.d (.sl 5 (r.map aA))) := by
 unfold kZ at h;refine Fn.of_tr Try.func71 rfl (rs := [.tmp 4]) Try.results71 Try.ntmps71 (Nat.le_of_ble_eq_true rfl) ?_;refine aE (aC (to (vP 5 (aG rfl)) ?_));refine aD (aE (aC (tm (.d (.sl 5 (e.map aA))) ?_)));obtain ⟨r1, h2, h⟩ := bns h;refine aZ rfl (pN (aG rfl) (.func _ _ Try.call91) rfl rfl (nY _ h2)) ?_;rintro _ ⟨v3, rfl⟩;refine ta (.d (.lit v3)) (aD (aE (aC (tm (.d (.lit v3)) ?_))));obtain ⟨r6, h7, h⟩ := bns h;refine aZ rfl (cR (passed := [.arr v3 42 5 (r1.map aA)]) (aG rfl) rfl (.func _ _ Try.call92) rfl rfl (lH r1 (fun y4 y5 => jN y4 y5) 98 [] Try.call98 (fun _ _ _ h => xO _ _ h) h7)) ?_;rintro _ ⟨_, _, ⟨rfl, rfl⟩, rfl⟩;refine aD (aE (aC (ta (.i 0) (aD (aE (aE (aC (tm (.d (.lit v3)) (to (jI (m := 0) (aG rfl) rfl rfl bA.of) ?_)))))))));refine tm (.i 0) (aD (bB ?_));refine bN (S := Int × Int) [0, 5, 13, 14] (fun s8 => [(6, .i s8.1), (15, .i s8.2)]) (fun s8 => [.arr v3 42 5 (r6.map aA)]) (fun k s8 => fA b (r6.length : Int) r6 k s8.1 s8.2) (fun _ => rfl) (0, 0) h (aN [0] rfl rfl (aK rfl (aK rfl (aO ⟨rfl, rfl, rfl, rfl, trivial⟩)))) ?_;rintro k9 ⟨a, c⟩ h;simp only [fA] at h;refine aE (aC (to (scm rfl rfl rfl) (aD (aE ?_))));refine tih h (fun n h => ?_) (fun n h => ?_)
 ·refine aS (aE (bB (aE (aC ?_))));obtain ⟨g, j, h⟩ := bns h;refine to (cM (m := 0) (aG rfl) rfl rfl rfl bA.of (aX aA j)) ?_;refine to (cF (aG rfl) rfl (l := 0) rfl (cY aA j) cS (es := (aA g)) rfl rfl) ?_;refine aZ rfl (dK (zs := [.lit (.int .i64 0), .lit (.int .i64 0), .lit (.int .i64 0), .lit (.int .i64 0), .lit (.bool false)]) (aG rfl) Try.zeroValue42 rfl rfl) ?_;rintro _ ⟨s, rfl⟩;refine to (sst 1 rfl rfl Try.sizeOf42 (aA g)) (aD (aE (aC (tfl 1 rfl rfl qS rfl tR (aD ?_)))));refine tih h (fun o h => ?_) (fun o h => ?_)
  ·refine aC (tm (.i a) (to (sar rfl rfl rfl) (ta (.i (w64 (a + 1))) ?_)));refine dE ?_;refine aC (to (sar rfl rfl rfl) (tm (.i (w64 (c + 1))) (aD ?_)));exact ⟨(w64 (a + 1), w64 (c + 1)), h, aN [0] rfl rfl (aK rfl (aK rfl (aO ⟨rfl, rfl, rfl, rfl, trivial⟩)))⟩
  ·refine dG ?_;refine aC (to (sar rfl rfl rfl) (tm (.i (w64 (c + 1))) (aD ?_)));exact ⟨(a, w64 (c + 1)), h, aN [0] rfl rfl (aK rfl (aK rfl (aO ⟨rfl, rfl, rfl, rfl, trivial⟩)))⟩
 ·refine bX ?_;refine .inl ⟨rfl, ?_⟩;simp only [kT] at h;refine aE (aC (tm (.d (.lit v3)) (tm (.d (.lit v3)) (to (jI (m := 0) (aG rfl) rfl rfl bA.of) ?_))));refine tm (.i a) (tm (.cp [.lit (.int .i64 b.Ledger.Players), .lit (.int .i64 b.Ledger.Counts), .sl 5 (b.Ledger.Reports.map aA), .sl 3 (b.Ledger.Bans.map aF), .sl 3 (b.Ledger.Frozen.map aF)]) (to (pO (aG rfl) rfl) ?_));refine to (sfc [.lit (.int .i64 b.Ledger.Players), .lit (.int .i64 b.Ledger.Counts), .sl 5 (b.Ledger.Reports.map aA), .sl 3 (b.Ledger.Bans.map aF), .sl 3 (b.Ledger.Frozen.map aF)] rfl iK) (to (sfc [.lit (.int .i64 b.Ledger.Counts)] rfl uJ) (to (slc rfl aT) (to (aCx (aG rfl) rfl rfl) ?_)));refine to (aGd (aG rfl) rfl rfl) ?_;refine eY (aBm [] [.arr v3 42 5 (r6.map aA)] rfl (eP (k := 25) (v := .d (.sl 5 (r6.map aA))) (.d (fO 0 rfl (bZ (f := aA) fun _ => rfl))) (eP (k := 24) (v := .d (.sl 5 (r6.map aA))) (.d (fO 0 rfl (bZ (f := aA) fun _ => rfl))) (eP (k := 13) (v := .d (.sl 5 (r6.map aA))) (.d (fO 0 rfl (bZ (f := aA) fun _ => rfl))) (eP (k := 5) (v := .d (.sl 5 (r6.map aA))) (.d (fO 0 rfl (bZ (f := aA) fun _ => rfl))) (qO _ _)))))) ?_;obtain ⟨p, q, h⟩ := bns h;refine to (kM (aG rfl) bA.of rfl rfl rfl (nM aA q)) ?_;refine ta (.d (.sl 5 (p.map aA))) (aD ?_);obtain rfl := sIn h;exact aU ⟨rfl, _, .one _, rfl, rfl⟩

theorem aAz (b : List aB) {r : Int} (h : sH b = some r) : Fn Try.prog 86 [.d (.sl 5 (b.map aA))] (.i r) := by
 unfold sH at h;refine Fn.of_tr Try.func86 rfl (rs := [.tmp 2]) Try.results86 Try.ntmps86 (Nat.le_of_ble_eq_true rfl) ?_;refine aE (aC (ta (.i 0) (aD (aE (aE (aC (tm (.d (.sl 5 (b.map aA))) (to (sle rfl bA.of) (tm (.i 0) (aD (bB ?_)))))))))));refine bN (S := Int × Int) [5, 6] (fun s1 => [(2, .i s1.1), (7, .i s1.2)]) (fun s1 => []) (fun k s1 => nE b (b.length : Int) k s1.1 s1.2) (fun _ => rfl) (0, 0) h (aN [] rfl rfl (aK rfl (aK rfl (aO ⟨rfl, rfl, trivial⟩)))) ?_;rintro k2 ⟨a, c⟩ h;simp only [nE] at h;refine aE (aC (to (scm rfl rfl rfl) (aD (aE ?_))));refine tih h (fun c3 h => ?_) (fun c3 h => ?_)
 ·refine aS (aE (bB (aE (aC ?_))));obtain ⟨x4, h5, h⟩ := bns h;refine to (six rfl rfl bA.of (aX aA h5)) (to (sK (aA x4) rfl cS) ?_);refine aZ rfl (dK (zs := [.lit (.int .i64 0), .lit (.int .i64 0), .lit (.int .i64 0), .lit (.int .i64 0), .lit (.bool false)]) (aG rfl) Try.zeroValue42 rfl rfl) ?_;rintro _ ⟨b6, rfl⟩;refine to (sst 0 rfl rfl Try.sizeOf42 (aA x4)) (aD (aC (tm (.i a) (tfl 0 rfl rfl sB rfl aT (to (sar rfl rfl rfl) (ta (.i (w64 (a + x4.Points))) ?_))))));refine dE ?_;refine aC (to (sar rfl rfl rfl) (tm (.i (w64 (c + 1))) (aD ?_)));exact ⟨(w64 (a + x4.Points), w64 (c + 1)), h, aN [] rfl rfl (aK rfl (aK rfl (aO ⟨rfl, rfl, trivial⟩)))⟩
 ·refine bX ?_;refine .inl ⟨rfl, ?_⟩;simp only [vZ] at h;refine aE (aC (tm (.i a) (ta (.i a) (aD ?_))));obtain rfl := sIn h;exact aU ⟨rfl, _, .one _, rfl, rfl⟩

theorem aAr (x : Int) {r : Int} (h : qI x = some r) : Fn Try.prog 101 [.d (.lit (.int .u64 x))] (.i r) := aIr (fun x w => Try.bits_Len x w) h

theorem oA (s : List aP) (g : Int) (x : Int) (q : aP → aP → Option Int) {r : (List aP)} {a : Value} (j : Nat) (o : List AV) (A : ∀ args w, (callFunc j args).run Try.prog w = .ok (.enter j args) w) (B : ∀ (x0 : aP) (x1 : aP) r, q x0 x1 = some r → Fn Try.prog j ([.agg (aV x0), .agg (aV x1)] ++ o) (.i r)) (h : cN s g x q = some r) : eS Try.prog 118 [.d (.lit a), .i g, .i x, .fn j o] [.arr a 114 4 (s.map aV)] (fun r' o' => r' = .tup [] ∧ o' = [.arr a 114 4 (r.map aV)]) := by
 unfold cN at h;refine iU Try.func118 rfl (rs := []) Try.results118 Try.ntmps118 (Nat.le_of_ble_eq_true rfl) ?_;refine aE (aC (tm (.i g) (to (sar rfl rfl rfl) (ta (.i (w64 (g + 1))) (aD (bB ?_))))));refine bN (S := Int × (List aP)) [1, 2, 3] (fun s1 => [(0, .d (.lit a)), (8, .i s1.1)]) (fun s1 => [.arr a 114 4 (s1.2.map aV)]) (fun k s1 => bM g x q k s1.1 s1.2) (fun _ => rfl) (w64 (g + 1), s) h (aN [0] rfl rfl (aK rfl (aK rfl (aO ⟨rfl, rfl, rfl, trivial⟩)))) ?_;rintro k2 ⟨n, t⟩ h;simp only [bM] at h;refine aE (aE (aC (tm (.i n) (tm (.i x) (to (scm rfl rfl rfl) (aD ?_))))));refine tih h (fun c3 h => ?_) (fun c3 h => ?_)
 ·refine aS (aE (bB (aE (aC (tm (.i n) (ta (.i n) (aD ?_)))))));refine yZ ?_;refine bN (S := Int × (List aP)) [1, 2, 3, 8] (fun s4 => [(0, .d (.lit a)), (9, .i s4.1)]) (fun s4 => [.arr a 114 4 (s4.2.map aV)]) (fun k s4 => cB (bM g x q k2) g x q n k s4.1 s4.2) (fun _ => rfl) (n, t) h (aN [0] rfl rfl (aK rfl (aK rfl (aO ⟨rfl, rfl, rfl, rfl, trivial⟩)))) ?_;rintro k5 ⟨c, f⟩ h;simp only [cB] at h;refine aE (aE ?_);obtain ⟨b6, h7, h⟩ := bns h;refine fI mix 17 [0, 1, 2, 3, 8, 9] [(34, .b b6)] ?_ ?_
  ·refine bch h7 (fun c8 h7 => ?_) (fun c8 h7 => ?_)
   ·obtain ⟨x9, C, h7⟩ := bns h7;obtain ⟨E, F, h7⟩ := bns h7;obtain ⟨z, K, h7⟩ := bns h7;obtain rfl := sIn h7;refine ⟨[(18, 0, .i c), (19, 1, .i g), (20, 2, .b (decide (g < c))), (21, 3, .b (decide (g < c))), (22, 4, .fn j o), (23, 5, .d (.lit a)), (24, 6, .i c), (25, 7, .ep a 4 c.toNat 0), (26, 8, .agg (aV x9)), (27, 9, .d (.lit a)), (28, 10, .i c), (29, 11, .i (w64 (c - 1))), (30, 12, .ep a 4 (w64 (c - 1)).toNat 0), (31, 13, .agg (aV E)), (32, 14, .i z), (33, 15, .b (decide (z < 0))), (34, 16, .b (decide (z < 0)))], ?_, ?_⟩
    · exact dok [([], []), ([], []), ([0, 1], []), ([2], []), ([3], []), ([3], []), ([3], []), ([3, 5, 6], []), ([3, 7], []), ([3], []), ([3], []), ([3, 10], []), ([3, 9, 11], []), ([3, 12], []), ([3, 4, 8, 13], []), ([3, 14], []), ([3, 15], [])] ⟨go (zm (.i c)),
      go (zm (.i g)),
      go (zcm rfl rfl rfl),
      go (zm (.b (decide (g < c)))),
      gt c8 (zm (.fn j o)),
      gt c8 (zm (.d (.lit a))),
      gt c8 (zm (.i c)),
      gt c8 (zia 0 rfl rfl rfl pB.of (aX aV C)),
      gt c8 fun S hS => cF (aG rfl) (aL hS rfl) (l := 0) rfl (cY aV C) tX (es := (aV x9)) rfl rfl,
      gt c8 (zm (.d (.lit a))),
      gt c8 (zm (.i c)),
      gt c8 (zar rfl rfl rfl),
      gt c8 (zia 0 rfl rfl rfl pB.of (aX aV F)),
      gt c8 fun S hS => cF (aG rfl) (aL hS rfl) (l := 0) rfl (cY aV F) tX (es := (aV E)) rfl rfl,
      gt c8 fun S hS => jH (aG rfl) (.clo _ _ _ _ A (aCw hS rfl)) (uG (ev2 (aL hS rfl) (ev2 (aL hS rfl) evn))) rfl (BVs.refl _ _) (B _ _ _  K) rfl,
      gt c8 (zcm rfl rfl rfl),
      go (zpt (.b (decide (z < 0))) c8), trivial⟩
    · exact cW (aK rfl (aO ⟨rfl, rfl, rfl, rfl, rfl, rfl, trivial⟩))
   ·obtain rfl := sIn h7;refine ⟨[(18, 0, .i c), (19, 1, .i g), (20, 2, .b (decide (g < c))), (21, 3, .b (decide (g < c))), (22, 4, .tup []), (23, 5, .tup []), (24, 6, .tup []), (25, 7, .tup []), (26, 8, .tup []), (27, 9, .tup []), (28, 10, .tup []), (29, 11, .tup []), (30, 12, .tup []), (31, 13, .tup []), (32, 14, .tup []), (33, 15, .tup []), (34, 16, .b false)], ?_, ?_⟩
    · exact dok [([], []), ([], []), ([0, 1], []), ([2], []), ([3], []), ([3], []), ([3], []), ([3, 5, 6], []), ([3, 7], []), ([3], []), ([3], []), ([3, 10], []), ([3, 9, 11], []), ([3, 12], []), ([3, 4, 8, 13], []), ([3, 14], []), ([3, 15], [])] ⟨go (zm (.i c)),
      go (zm (.i g)),
      go (zcm rfl rfl rfl),
      go (zm (.b (decide (g < c)))),
      gp c8,
      gp c8,
      gp c8,
      gp c8,
      gp c8,
      gp c8,
      gp c8,
      gp c8,
      gp c8,
      gp c8,
      gp c8,
      gp c8,
      go (zpf (.b false) c8), trivial⟩
    · exact cW (aK rfl (aO ⟨rfl, rfl, rfl, rfl, rfl, rfl, trivial⟩))
  ·refine aD ?_;refine tih h (fun L h => ?_) (fun L h => ?_)
   ·refine aS (aE (bB ?_));obtain ⟨u, G, h⟩ := bns h;obtain ⟨y, H, h⟩ := bns h;obtain ⟨M, I, h⟩ := bns h;refine jC mix 16 [0, 1, 2, 3, 8, 9] (fun e => [(39, .d (.lit a)), (41, .i (w64 (c - 1))), (50, .agg (aV y))]) (fun e => [.arr a 114 4 ((f.set c.toNat u).map aV)]) ?_ ?_
    ·refine ⟨0, fun e => [(37, 0, .d (.lit a)), (38, 1, .i c), (39, 2, .d (.lit a)), (40, 3, .i c), (41, 4, .i (w64 (c - 1))), (42, 5, .d (.lit a)), (43, 6, .i c), (44, 7, .i (w64 (c - 1))), (45, 8, .ep a 4 (w64 (c - 1)).toNat 0), (46, 9, .agg (aV u)), (47, 10, .d (.lit a)), (48, 11, .i c), (49, 12, .ep a 4 c.toNat 0), (50, 13, .agg (aV y)), (51, 14, .ep a 4 c.toNat 0)], fun e => [([(15, .arr a 114 4 ((f.set c.toNat u).map aV))], .arr a 114 4 (f.map aV))], ?_, ?_⟩
     · exact ⟨by kernel_rfl, by kernel_rfl, by kernel_rfl, fun _ => by kernel_rfl, fun _ => by kernel_rfl, fun _ => by kernel_rfl, fun _ => rfl, [([], [15]), ([], [15]), ([], []), ([], []), ([3], []), ([], [15]), ([], [15]), ([6], [15]), ([5, 7], [15]), ([8], [15]), ([], [15]), ([], [15]), ([10, 11], [15]), ([12], [15]), ([0, 1], [15]), ([9, 14], [])], by kernel_rfl, ⟨fun e S hw hi hS => aQ (X := e) rfl (hw e) rfl (aY rfl (bW (v := .d (.lit a)) (aG rfl) (aL hS rfl) rfl)),
      fun e S hw hi hS => aQ (X := e) rfl (hw e) rfl (aY rfl (bW (v := .i c) (aG rfl) (aL hS rfl) rfl)),
      fun e S hw hi hS => aQ (X := e) rfl (hw e) rfl (aY rfl (bW (v := .d (.lit a)) (aG rfl) (aL hS rfl) rfl)),
      fun e S hw hi hS => aQ (X := e) rfl (hw e) rfl (aY rfl (bW (v := .i c) (aG rfl) (aL hS rfl) rfl)),
      fun e S hw hi hS => aQ (X := e) rfl (hw e) rfl (aY rfl (jP (aG rfl) (aL hS rfl) rfl rfl)),
      fun e S hw hi hS => aQ (X := e) rfl (hw e) rfl (aY rfl (bW (v := .d (.lit a)) (aG rfl) (aL hS rfl) rfl)),
      fun e S hw hi hS => aQ (X := e) rfl (hw e) rfl (aY rfl (bW (v := .i c) (aG rfl) (aL hS rfl) rfl)),
      fun e S hw hi hS => aQ (X := e) rfl (hw e) rfl (aY rfl (jP (aG rfl) (aL hS rfl) rfl rfl)),
      fun e S hw hi hS => aQ (X := e) rfl (hw e) rfl (aY rfl (cM (m := 0) (aG rfl) (aL hS rfl) (og hS rfl rfl) (aL hS rfl) pB.of (aX aV G))),
      fun e S hw hi hS => aQ (X := e) rfl (hw e) rfl (aY rfl (cF (aG rfl) (aL hS rfl) (l := 0) (og hS rfl rfl) (cY aV G) tX (es := (aV u)) rfl rfl)),
      fun e S hw hi hS => aQ (X := e) rfl (hw e) rfl (aY rfl (bW (v := .d (.lit a)) (aG rfl) (aL hS rfl) rfl)),
      fun e S hw hi hS => aQ (X := e) rfl (hw e) rfl (aY rfl (bW (v := .i c) (aG rfl) (aL hS rfl) rfl)),
      fun e S hw hi hS => aQ (X := e) rfl (hw e) rfl (aY rfl (cM (m := 0) (aG rfl) (aL hS rfl) (og hS rfl rfl) (aL hS rfl) pB.of (aX aV H))),
      fun e S hw hi hS => aQ (X := e) rfl (hw e) rfl (aY rfl (cF (aG rfl) (aL hS rfl) (l := 0) (og hS rfl rfl) (cY aV H) tX (es := (aV y)) rfl rfl)),
      fun e S hw hi hS => aQ (X := e) rfl (hw e) rfl (aY rfl (cM (m := 0) (aG rfl) (aL hS rfl) (og hS rfl rfl) (aL hS rfl) pB.of (aX aV I))),
      fun e S hw hi hS => oE (X := e) hS rfl rfl rfl (p := 0) rfl rfl (aY rfl (iY (l := 0) (aL hS rfl) (og hS rfl rfl) (cY aV I) (aL hS rfl) rfl rfl Try.sizeOf114 rfl (aG rfl) (Nat.le_of_ble_eq_true rfl) (rows' := ((f.set c.toNat u)).map aV) (mJ _ _ _ _ rfl))), trivial⟩⟩
     · exact fun e => cW (aK rfl (aK rfl (aK rfl (aO ⟨rfl, rfl, rfl, rfl, rfl, rfl, trivial⟩))))
    ·intro e;obtain ⟨N, J, h⟩ := bns h;refine to (cM (m := 0) (aG rfl) rfl rfl rfl pB.of (aX aV J)) ?_;refine to (iY (l := 0) rfl rfl (cY aV J) rfl rfl rfl Try.sizeOf114 rfl (aG rfl) (Nat.le_of_ble_eq_true rfl) (rows' := (((f.set c.toNat u).set (w64 (c - 1)).toNat y)).map aV) (mJ _ _ _ _ rfl)) ?_;refine dE ?_;refine aC (tm (.i c) (to (sar rfl rfl rfl) (ta (.i (w64 (c - 1))) (aD ?_))));exact ⟨(w64 (c - 1), ((f.set c.toNat u).set (w64 (c - 1)).toNat y)), h, aN [0] rfl rfl (aK rfl (aK rfl (aO ⟨rfl, rfl, rfl, rfl, trivial⟩)))⟩
   ·refine bX ?_;refine .inl ⟨rfl, ?_⟩;simp only [eJ] at h;simp only [eI] at h;refine aC (tm (.i n) (to (sar rfl rfl rfl) (ta (.i (w64 (n + 1))) (aD ?_))));exact ⟨(w64 (n + 1), f), h, aN [0] rfl rfl (aK rfl (aK rfl (aO ⟨rfl, rfl, rfl, trivial⟩)))⟩
 ·refine bX ?_;refine .inl ⟨rfl, ?_⟩;simp only [eH] at h;obtain rfl := sIn h;exact ⟨_, [.arr a 114 4 (t.map aV)], [], _, .none, .refl _, .same _, rfl, rfl⟩

theorem qF (m : List aP) (t : Int) (u : Int) (j : Int) (l : aP → aP → Option Int) {r : (List aP)} {a : Value} (c : Nat) (e : List AV) (q : ∀ args w, (callFunc c args).run Try.prog w = .ok (.enter c args) w) (s : ∀ (x0 : aP) (x1 : aP) r, l x0 x1 = some r → Fn Try.prog c ([.agg (aV x0), .agg (aV x1)] ++ e) (.i r)) (h : gB m t u j l = some r) : eS Try.prog 103 [.d (.lit a), .i t, .i u, .i j, .fn c e] [.arr a 114 4 (m.map aV)] (fun r' o' => r' = .tup [] ∧ o' = [.arr a 114 4 (r.map aV)]) := by
 unfold gB at h;refine iU Try.func103 rfl (rs := []) Try.results103 Try.ntmps103 (Nat.le_of_ble_eq_true rfl) ?_;refine aE (aC (ta (.b true) (aD (aE (aC (ta (.b true) (aD (bB ?_))))))));refine bN (S := Int × Int × Int × Bool × Bool × (List aP)) [4] (fun s1 => [(0, .d (.lit a)), (1, .i s1.1), (2, .i s1.2.1), (3, .i s1.2.2.1), (10, .b s1.2.2.2.1), (11, .b s1.2.2.2.2.1)]) (fun s1 => [.arr a 114 4 (s1.2.2.2.2.2.map aV)]) (fun k s1 => fN l k s1.1 s1.2.1 s1.2.2.1 s1.2.2.2.1 s1.2.2.2.2.1 s1.2.2.2.2.2) (fun _ => rfl) (t, u, j, true, true, m) h (aN [0] rfl rfl (aK rfl (aK rfl (aK rfl (aK rfl (aK rfl (aK rfl (aO ⟨rfl, trivial⟩)))))))) ?_;rintro k2 ⟨f, g, v, p, o, n⟩ h;simp only [fN] at h;refine bB (aE (aC (tm (.i g) (tm (.i f) (to (sar rfl rfl rfl) (ta (.i (w64 (g - f))) (aD (aE (aE (aC (tm (.i (w64 (g - f))) (to (scm rfl rfl rfl) (aD ?_)))))))))))));refine tih h (fun c3 h => ?_) (fun c3 h => ?_)
 ·refine aE (aC (tm (.d (.lit a)) (tm (.i f) (tm (.i g) (tm (.fn c e) ?_)))));obtain ⟨r4, h5, h⟩ := bns h;refine aZ rfl (cR (passed := [.arr a 114 4 (n.map aV)]) (aG rfl) rfl (.func _ _ Try.call118) rfl rfl (oA n f g l c e q s h5)) ?_;rintro _ ⟨_, _, ⟨rfl, rfl⟩, rfl⟩;refine aD ?_;obtain rfl := sIn h;exact aU ⟨rfl, _, [.arr a 114 4 (r4.map aV)], [], _, .none, .refl _, .same _, rfl, rfl⟩
 ·refine aS (aE (aE ?_));cases h

theorem tB (e : List aP) (f : aP → aP → Option Int) {r : (List aP)} {b : Value} (a : Nat) (c : List AV) (g : ∀ args w, (callFunc a args).run Try.prog w = .ok (.enter a args) w) (j : ∀ (x0 : aP) (x1 : aP) r, f x0 x1 = some r → Fn Try.prog a ([.agg (aV x0), .agg (aV x1)] ++ c) (.i r)) (h : gT e f = some r) : eS Try.prog 87 [.d (.lit b), .fn a c] [.arr b 114 4 (e.map aV)] (fun r' o' => r' = .tup [] ∧ o' = [.arr b 114 4 (r.map aV)]) := by
 unfold gT at h;refine iU Try.func87 rfl (rs := []) Try.results87 Try.ntmps87 (Nat.le_of_ble_eq_true rfl) ?_;refine aE (aC (tm (.d (.lit b)) (to (jI (m := 0) (aG rfl) rfl rfl pB.of) ?_)));refine ta (.i (e.length : Int)) (aD (aC (tm (.d (.lit b)) (tm (.i (e.length : Int)) (tm (.i (e.length : Int)) (to (pA (aG rfl) rfl Try.runUnderlying3 Try.runUnderlying127) ?_))))));obtain ⟨r1, h2, h⟩ := bns h;refine to (scr Try.call101 (aAr _ h2)) (tm (.fn a c) ?_);obtain ⟨r3, h4, h⟩ := bns h;refine aZ rfl (cR (passed := [.arr b 114 4 (e.map aV)]) (aG rfl) rfl (.func _ _ Try.call103) rfl rfl (qF e 0 (e.length : Int) r1 f a c g j h4)) ?_;rintro _ ⟨_, _, ⟨rfl, rfl⟩, rfl⟩;refine aD ?_;obtain rfl := sIn h;exact ⟨_, [.arr b 114 4 (r3.map aV)], [], _, .none, .refl _, .same _, rfl, rfl⟩

theorem xP (a : aP) (b : aP) {r : Int} (h : jO a b = some r) : Fn Try.prog 88 [.agg (aV a), .agg (aV b)] (.i r) := by
 unfold jO at h;refine Fn.of_tr Try.func88 rfl (rs := [.tmp 4]) Try.results88 Try.ntmps88 (Nat.le_of_ble_eq_true rfl) ?_;refine aE (aC ?_);refine aZ rfl (eM (v := .agg (aV a)) (aG rfl) rfl rfl rfl) ?_;rintro _ ⟨b1, rfl⟩;refine aZ rfl (eM (v := .agg (aV b)) (aG rfl) rfl rfl rfl) ?_;rintro _ ⟨b2, rfl⟩;refine ta (.i 0) (aD (aE (aC (tfl 1 rfl rfl aCd rfl aT (tfl 0 rfl rfl aCd rfl aT (to (sar rfl rfl rfl) (tfl 1 rfl rfl vD rfl aT (tfl 0 rfl rfl vD rfl aT (to (sar rfl rfl rfl) ?_)))))))));refine tfl 0 rfl rfl aCe rfl aT (tfl 1 rfl rfl aCe rfl aT (to (sar rfl rfl rfl) (tfl 0 rfl rfl yA rfl aT (tfl 1 rfl rfl yA rfl aT (to (sar rfl rfl rfl) (to (hT (aG rfl) eN rfl rfl (rows := ([w64 (b.points - a.points), w64 (b.musts - a.musts), w64 (a.many - b.many), w64 (a.player - b.player)]).map bL) rfl (bZ (f := bL) fun _ => rfl) rfl (by decide)) ?_))))));obtain ⟨r3, h4, h⟩ := bns h;refine to (scr Try.call99 (xV _ h4)) (ta (.i r3) (aD ?_));obtain rfl := sIn h;refine bP (bG (bK (l := [4]) ⟨rfl, trivial⟩)) ?_;exact aU ⟨rfl, _, .one _, rfl, rfl⟩

theorem uT (a : bD) (j : Int) {r : (List Int)} (h : fP a j = some r) : Fn Try.prog 59 [.cp (bH a), .i j] (.d (.sl 1 (r.map bL))) := by
 unfold fP at h;refine Fn.of_tr Try.func59 rfl (rs := [.tmp 4]) Try.results59 Try.ntmps59 (Nat.le_of_ble_eq_true rfl) ?_;refine aE (aC (to (vP 1 (aG rfl)) ?_));refine aD (aE (aC (to (hY 114 4 (.inl rfl) (aG rfl)) ?_)));refine aD (aE (aE (aC (tm (.cp [.lit (.int .i64 a.Ledger.Players), .lit (.int .i64 a.Ledger.Counts), .sl 5 (a.Ledger.Reports.map aA), .sl 3 (a.Ledger.Bans.map aF), .sl 3 (a.Ledger.Frozen.map aF)]) (to (pO (aG rfl) rfl) ?_)))));refine to (sfc [.lit (.int .i64 a.Ledger.Players), .lit (.int .i64 a.Ledger.Counts), .sl 5 (a.Ledger.Reports.map aA), .sl 3 (a.Ledger.Bans.map aF), .sl 3 (a.Ledger.Frozen.map aF)] rfl iK) (to (sfc [.lit (.int .i64 a.Ledger.Players)] rfl iJ) (to (slc rfl aT) (tm (.i 0) (aD (bB ?_)))));refine bN (S := Int × (List aP) × Value) [0, 1, 18] (fun s2 => [(5, .d (.lit s2.2.2)), (19, .i s2.1)]) (fun s2 => [.arr s2.2.2 114 4 (s2.2.1.map aV)]) (fun k s2 => eE a j a.Ledger.Players k s2.1 s2.2.1) (fun _ => rfl) (0, ([] : List aP), (.slice none 0 0)) h (aN [0] rfl rfl (aK rfl (aK rfl (aO ⟨rfl, rfl, rfl, trivial⟩)))) ?_;rintro k4 ⟨c, g, w3⟩ h;simp only [eE] at h;refine aE (aC (to (scm rfl rfl rfl) (aD (aE ?_))));refine tih h (fun c5 h => ?_) (fun c5 h => ?_)
 ·refine aS (aE (bB (aE (aC (tm (.i c) (ta (.i c) (aD (aE (aC (tm (.cp [.lit (.int .i64 a.Ledger.Players), .lit (.int .i64 a.Ledger.Counts), .sl 5 (a.Ledger.Reports.map aA), .sl 3 (a.Ledger.Bans.map aF), .sl 3 (a.Ledger.Frozen.map aF)]) (tm (.i c) (tm (.i j) ?_))))))))))));obtain ⟨r6, h7, h⟩ := bns h;refine to (gG (aG rfl) (.func _ _ Try.call72) rfl rfl (tK _ _ _ h7)) ?_;refine ta (.d (.sl 5 (r6.map aA))) (aD (aE (aE (aC (tm (.cp [.lit (.int .i64 a.Ledger.Players), .lit (.int .i64 a.Ledger.Counts), .sl 5 (a.Ledger.Reports.map aA), .sl 3 (a.Ledger.Bans.map aF), .sl 3 (a.Ledger.Frozen.map aF)]) (to (pO (aG rfl) rfl) ?_))))));refine to (sfc [.lit (.int .i64 a.Ledger.Players), .lit (.int .i64 a.Ledger.Counts), .sl 5 (a.Ledger.Reports.map aA), .sl 3 (a.Ledger.Bans.map aF), .sl 3 (a.Ledger.Frozen.map aF)] rfl iK) (to (sfc [.sl 3 (a.Ledger.Bans.map aF)] rfl iZ) (to (slc rfl eZ) (tm (.i c) (tm (.i j) ?_))));obtain ⟨r8, h9, h⟩ := bns h;refine to (scr Try.call48 (vX _ _ _ h9)) (tm (.b r8) ?_);obtain ⟨F, t, h⟩ := bns h;refine aW 4 [0, 1, 5, 6, 7, 18, 19] 38 F ?_ ?_
  ·refine bch t (fun o t => ?_) (fun o t => ?_)
   ·refine tp o (tp o (tp o (to (spt (.b true) o) ?_)));obtain rfl := sIn t;refine aD (aM rfl ⟨rfl, rfl, rfl, rfl, rfl, rfl, rfl, trivial⟩ rfl)
   ·refine tk o (sm (.d (.sl 5 (r6.map aA)))) (tk o (sle rfl bA.of) (tk o (scm rfl rfl rfl) (to (spf (.b (decide ((r6.length : Int) = 0))) o) ?_)));obtain rfl := sIn t;refine aD (aM rfl ⟨rfl, rfl, rfl, rfl, rfl, rfl, rfl, trivial⟩ rfl)
  ·refine aD ?_;refine tih h (fun G h => ?_) (fun G h => ?_)
   ·refine bX ?_;refine .inl ⟨rfl, ?_⟩;simp only [jM] at h;refine aC (to (sar rfl rfl rfl) (tm (.i (w64 (c + 1))) (aD ?_)));exact ⟨(w64 (c + 1), g, w3), h, aN [0] rfl rfl (aK rfl (aK rfl (aO ⟨rfl, rfl, rfl, trivial⟩)))⟩
   ·refine aS (aE (aC (tm (.i c) (tm (.cp [.lit (.int .i64 a.Ledger.Players), .lit (.int .i64 a.Ledger.Counts), .sl 5 (a.Ledger.Reports.map aA), .sl 3 (a.Ledger.Bans.map aF), .sl 3 (a.Ledger.Frozen.map aF)]) (tm (.d (.sl 5 (r6.map aA))) ?_)))));obtain ⟨X, H, h⟩ := bns h;refine to (gG (aG rfl) (.func _ _ Try.call71) rfl rfl (tM _ _ H)) ?_;obtain ⟨x, I, h⟩ := bns h;refine to (scr Try.call86 (aAz _ I)) (tm (.d (.sl 5 (r6.map aA))) (to (sle rfl bA.of) (to (jQ (aG rfl) aJq (zs := [.lit (.int .i64 0), .lit (.int .i64 0), .lit (.int .i64 0), .lit (.int .i64 0)]) rfl rfl rfl rfl (es := [.lit (.int .i64 c), .lit (.int .i64 x), .lit (.int .i64 0), .lit (.int .i64 (r6.length : Int))]) rfl) ?_)));refine aZ rfl (dK (zs := [.lit (.int .i64 0), .lit (.int .i64 0), .lit (.int .i64 0), .lit (.int .i64 0)]) (aG rfl) Try.zeroValue114 rfl rfl) ?_;rintro _ ⟨J, rfl⟩;refine to (sst 1 rfl rfl Try.sizeOf114 (aV (aP.mk c x 0 (r6.length : Int)))) (aD (aE (aE (aC (tm (.d (.sl 5 (r6.map aA))) (to (sle rfl bA.of) (tm (.i 0) (aD (bB ?_)))))))));refine bN (S := Int × aP) [0, 1, 5, 8, 18, 19, 47, 48] (fun s => [(49, .i s.1)]) (fun s => [.arr w3 114 4 (g.map aV), .box J 0 (aV s.2)]) (fun k s => gH (eE a j a.Ledger.Players k4) a j a.Ledger.Players c r6 (r6.length : Int) g k s.1 s.2) (fun _ => rfl) (0, (aP.mk c x 0 (r6.length : Int))) h (aN [0, 1] rfl rfl (aK rfl (aO ⟨rfl, rfl, rfl, rfl, rfl, rfl, rfl, rfl, trivial⟩))) ?_;rintro Y ⟨n, e⟩ h;simp only [gH] at h;refine aE (aC (to (scm rfl rfl rfl) (aD (aE ?_))));refine tih h (fun K h => ?_) (fun K h => ?_)
    ·refine aS (aE (bB (aE (aC ?_))));obtain ⟨w, L, h⟩ := bns h;refine to (six rfl rfl bA.of (aX aA L)) (to (sK (aA w) rfl cS) ?_);refine aZ rfl (dK (zs := [.lit (.int .i64 0), .lit (.int .i64 0), .lit (.int .i64 0), .lit (.int .i64 0), .lit (.bool false)]) (aG rfl) Try.zeroValue42 rfl rfl) ?_;rintro _ ⟨Z, rfl⟩;refine to (sst 2 rfl rfl Try.sizeOf42 (aA w)) (aD (aE (aC (tfl 2 rfl rfl qS rfl tR (aD ?_)))));refine tih h (fun M h => ?_) (fun M h => ?_)
     ·refine aC (tfl 1 rfl rfl vD rfl aT (tfl 2 rfl rfl sB rfl aT (to (sar rfl rfl rfl) (to (sf rfl vD) (to (sst 1 rfl rfl Try.sizeOf3 (aV (aP.mk e.player e.points (w64 (e.musts + w.Points)) e.many))) ?_)))));refine dE ?_;refine aC (to (sar rfl rfl rfl) (tm (.i (w64 (n + 1))) (aD ?_)));exact ⟨(w64 (n + 1), (aP.mk e.player e.points (w64 (e.musts + w.Points)) e.many)), h, aN [0, 1] rfl rfl (aK rfl (aO ⟨rfl, rfl, rfl, rfl, rfl, rfl, rfl, rfl, trivial⟩))⟩
     ·refine dG ?_;refine aC (to (sar rfl rfl rfl) (tm (.i (w64 (n + 1))) (aD ?_)));exact ⟨(w64 (n + 1), e), h, aN [0, 1] rfl rfl (aK rfl (aO ⟨rfl, rfl, rfl, rfl, rfl, rfl, rfl, rfl, trivial⟩))⟩
    ·refine bX ?_;refine .inl ⟨rfl, ?_⟩;simp only [nH] at h;refine aC (tm (.d (.lit w3)) (to (sla 1 (aV e) rfl rfl tX) (to (hT (aG rfl) pB rfl rfl (rows := ([e]).map aV) rfl (bZ (f := aV) fun _ => rfl) rfl (by decide)) ?_)));obtain ⟨N, O, h⟩ := bns h;refine aZ rfl (lP (i := 0) (aG rfl) pB rfl rfl rfl (fun _ => rfl) O rfl) ?_;rintro _ ⟨B, rfl⟩;refine ta (.d (.lit B)) ?_;refine dE ?_;simp only [jM] at h;refine aC (to (sar rfl rfl rfl) (tm (.i (w64 (c + 1))) (aD ?_)));exact ⟨(w64 (c + 1), N, B), h, aN [0] rfl rfl (aK rfl (aK rfl (aO ⟨rfl, rfl, rfl, trivial⟩)))⟩
 ·refine bX ?_;refine .inl ⟨rfl, ?_⟩;simp only [lG] at h;refine aE (aC (tm (.d (.lit w3)) ?_));obtain ⟨y, P, h⟩ := bns h;refine aZ rfl (cR (passed := [.arr w3 114 4 (g.map aV)]) (aG rfl) rfl (.func _ _ Try.call87) rfl rfl (tB g (fun Q T => jO Q T) 88 [] Try.call88 (fun _ _ _ h => xP _ _ h) P)) ?_;rintro _ ⟨_, _, ⟨rfl, rfl⟩, rfl⟩;refine aD (aE (aC (to (hY 3 1 (.inl rfl) (aG rfl)) ?_)));refine aD (aE (aE (aC (tm (.d (.lit w3)) (to (jI (m := 0) (aG rfl) rfl rfl pB.of) ?_)))));refine tm (.i 0) (aD (bB ?_));refine bN (S := Int × (List Int) × Value) [69, 70] (fun p => [(11, .d (.lit p.2.2)), (71, .i p.1)]) (fun p => [.arr w3 114 4 (y.map aV), .arr p.2.2 3 1 (p.2.1.map bL)]) (fun k p => iL (y.length : Int) y k p.1 p.2.1) (fun _ => rfl) (0, ([] : List Int), (.slice none 0 0)) h (aN [0, 1] rfl rfl (aK rfl (aK rfl (aO ⟨rfl, rfl, trivial⟩)))) ?_;rintro a0 ⟨q, u, z⟩ h;simp only [iL] at h;refine aE (aC (to (scm rfl rfl rfl) (aD (aE ?_))));refine tih h (fun U h => ?_) (fun U h => ?_)
  ·refine aS (aE (bB (aE (aC ?_))));obtain ⟨A, C, h⟩ := bns h;refine to (cM (m := 0) (aG rfl) rfl rfl rfl pB.of (aX aV C)) ?_;refine to (cF (aG rfl) rfl (l := 0) rfl (cY aV C) tX (es := (aV A)) rfl rfl) ?_;refine aZ rfl (dK (zs := [.lit (.int .i64 0), .lit (.int .i64 0), .lit (.int .i64 0), .lit (.int .i64 0)]) (aG rfl) Try.zeroValue114 rfl rfl) ?_;rintro _ ⟨a1, rfl⟩;refine to (sst 2 rfl rfl Try.sizeOf114 (aV A)) (aD (aC (tm (.d (.lit z)) (tfl 2 rfl rfl yA rfl aT (to (hT (aG rfl) eN rfl rfl (rows := ([A.player]).map bL) rfl (bZ (f := bL) fun _ => rfl) rfl (by decide)) ?_)))));obtain ⟨V, W, h⟩ := bns h;refine aZ rfl (lP (i := 1) (aG rfl) eN rfl rfl rfl (fun _ => rfl) W rfl) ?_;rintro _ ⟨E, rfl⟩;refine ta (.d (.lit E)) ?_;refine dE ?_;refine aC (to (sar rfl rfl rfl) (tm (.i (w64 (q + 1))) (aD ?_)));exact ⟨(w64 (q + 1), V, E), h, aN [0, 1] rfl rfl (aK rfl (aK rfl (aO ⟨rfl, rfl, trivial⟩)))⟩
  ·refine bX ?_;refine .inl ⟨rfl, ?_⟩;simp only [pX] at h;refine aE (aC (tm (.d (.lit z)) (ta (.d (.lit z)) (aD ?_))));obtain rfl := sIn h;refine bP (bG (eP (k := 4) (v := .d (.sl 1 (u.map bL))) (.d (fO 1 rfl (bZ (f := bL) fun _ => rfl))) (yX))) ?_;exact aU ⟨rfl, _, .one _, rfl, rfl⟩

theorem qD (b : aH) (a : Int) {r : (List Int) × Int} (h : kS b a = some r) : Fn Try.prog 27 [.agg (aI b), .i a] (.tup [.d (.sl 1 (r.1.map bL)), .i r.2]) := by
 unfold kS at h;refine Fn.of_tr Try.func27 rfl (rs := [.tmp 4, .tmp 5]) Try.results27 Try.ntmps27 (Nat.le_of_ble_eq_true rfl) ?_;refine aE (aC ?_);refine aZ rfl (eM (v := .agg (aI b)) (aG rfl) rfl rfl rfl) ?_;rintro _ ⟨b1, rfl⟩;refine to (vP 1 (aG rfl)) ?_;refine ta (.i 0) (aD (aE (aC (to (sla 0 (aI b) rfl rfl cK) (tm (.i a) ?_)))));obtain ⟨r2, h3, h⟩ := bns h;refine aZ rfl (cR (passed := []) (aG rfl) rfl (.func _ _ Try.call44) rfl rfl (tS _ _ _ h3)) ?_;rintro _ ⟨_, _, ⟨b5, w6, rfl, rfl⟩, rfl⟩;obtain ⟨_ | y4, e7⟩ := r2
 ·have h := yG h;refine eY (aN [0] rfl rfl (le_refl _)) ?_;refine tm (.tup [.d (.lit (.pointer none)), .i e7]) (to (sex rfl rfl) (to (sex rfl rfl) (ta (.d (.lit (.pointer none))) (ta (.i e7) (aD (aE (aE (aC (tm (.i e7) (to (scm rfl rfl rfl) (aD ?_)))))))))));refine tih h (fun c8 h => ?_) (fun c8 h => ?_)
  ·refine aE (aC (tm (.i e7) (to (vP 1 (aG rfl)) ?_)));refine ta (.i e7) (aD ?_);obtain rfl := sIn h;refine bP (bG (bK (l := [4, 5]) ⟨rfl, rfl, trivial⟩)) ?_;exact aU ⟨rfl, _, .two _ _, rfl, rfl⟩
  ·refine aS (aE (aC (tm (.d (.lit (.pointer none))) (tm (.i a) ?_))));cases h
 ·have h := yH h;refine eY (aN [0, 1, 2] rfl rfl (le_refl _)) ?_;refine tm (.tup [.bp b5 0 0, .i e7]) (to (sex rfl rfl) (to (sex rfl rfl) (ta (.bp b5 0 0) (ta (.i e7) (aD (aE (aE (aC (tm (.i e7) (to (scm rfl rfl rfl) (aD ?_)))))))))));refine tih h (fun c9 h => ?_) (fun c9 h => ?_)
  ·refine aE (aC (tm (.i e7) (to (vP 1 (aG rfl)) ?_)));refine ta (.i e7) (aD ?_);obtain rfl := sIn h;refine bP (bG (bK (l := [4, 5]) ⟨rfl, rfl, trivial⟩)) ?_;exact aU ⟨rfl, _, .two _ _, rfl, rfl⟩
  ·refine aS (aE (aC (tm (.bp b5 0 0) (tm (.i a) ?_))));refine eY (aN [2, 0, 1] rfl rfl (le_refl _)) ?_;apply zA [.box b1 0 (aI b)] [.box b5 0 [.lit (.int .i64 y4.Ledger.Players), .lit (.int .i64 y4.Ledger.Counts), .lit w6, .sl 3 (y4.Ledger.Bans.map aF), .sl 3 (y4.Ledger.Frozen.map aF)], .arr w6 42 5 (y4.Ledger.Reports.map aA)] rfl;exact eP (k := 17) (v := .cp [.lit (.int .i64 y4.Ledger.Players), .lit (.int .i64 y4.Ledger.Counts), .sl 5 (y4.Ledger.Reports.map aA), .sl 3 (y4.Ledger.Bans.map aF), .sl 3 (y4.Ledger.Frozen.map aF)]) (nQ 0 rfl rfl (dvc (.same _) (dvc (.same _) (dvc (fO 1 rfl (bZ (f := aA) fun _ => rfl)) (dvc (.same _) (dvc (.same _) dvn)))))) (eP (k := 12) (v := .cp [.lit (.int .i64 y4.Ledger.Players), .lit (.int .i64 y4.Ledger.Counts), .sl 5 (y4.Ledger.Reports.map aA), .sl 3 (y4.Ledger.Bans.map aF), .sl 3 (y4.Ledger.Frozen.map aF)]) (nQ 0 rfl rfl (dvc (.same _) (dvc (.same _) (dvc (fO 1 rfl (bZ (f := aA) fun _ => rfl)) (dvc (.same _) (dvc (.same _) dvn)))))) (eP (k := 11) (v := .any) (.any _) (eP (k := 8) (v := .any) (.any _) (eP (k := 6) (v := .cp [.lit (.int .i64 y4.Ledger.Players), .lit (.int .i64 y4.Ledger.Counts), .sl 5 (y4.Ledger.Reports.map aA), .sl 3 (y4.Ledger.Bans.map aF), .sl 3 (y4.Ledger.Frozen.map aF)]) (nQ 0 rfl rfl (dvc (.same _) (dvc (.same _) (dvc (fO 1 rfl (bZ (f := aA) fun _ => rfl)) (dvc (.same _) (dvc (.same _) dvn)))))) (qO _ _)))));obtain ⟨c, e, h⟩ := bns h;refine to (gG (aG rfl) (.func _ _ Try.call59) rfl rfl (uT _ _ e)) ?_;refine ta (.d (.sl 1 (c.map bL))) (ta (.i 0) (aD ?_));obtain rfl := sIn h;refine bP (bG (bK (l := [4, 5]) ⟨rfl, rfl, trivial⟩)) ?_;exact aU ⟨rfl, _, .two _ _, rfl, rfl⟩

theorem wB (e : List Int) (g : Int → Option Bool) {r : Int} (c : Nat) (f : List AV) (j : ∀ args w, (callFunc c args).run Try.prog w = .ok (.enter c args) w) (l : ∀ (x0 : Int) r, g x0 = some r → Fn Try.prog c ([.i x0] ++ f) (.b r)) (h : nU e g = some r) : Fn Try.prog 81 [.d (.sl 1 (e.map bL)), .fn c f] (.i r) := by
 unfold nU at h;refine Fn.of_tr Try.func81 rfl (rs := [.tmp 4]) Try.results81 Try.ntmps81 (Nat.le_of_ble_eq_true rfl) ?_;refine aE (aC (ta (.i 0) (aD (aE (aE (aC (tm (.d (.sl 1 (e.map bL))) (to (sle rfl eN.of) (tm (.i 0) (aD (bB ?_)))))))))));refine bN (S := Int) [0, 1, 7] (fun s1 => [(8, .i s1)]) (fun s1 => []) (fun k s1 => jV e g (e.length : Int) k s1) (fun _ => rfl) (0) h (aN [] rfl rfl (aK rfl (aO ⟨rfl, rfl, rfl, trivial⟩))) ?_;rintro k2 a h;simp only [jV] at h;refine aE (aC (to (scm rfl rfl rfl) (aD (aE ?_))));refine tih h (fun c3 h => ?_) (fun c3 h => ?_)
 ·refine aS (aE (bB (aE (aC (tm (.i a) (ta (.i a) (aD (aE (aC (tm (.fn c f) (tm (.d (.sl 1 (e.map bL))) (tm (.i a) ?_))))))))))));obtain ⟨x4, h5, h⟩ := bns h;refine to (six rfl rfl eN.of (aX bL h5)) (to (slc rfl aT) ?_);obtain ⟨r6, h7, h⟩ := bns h;refine to (jH (aG rfl) (.clo _ _ _ _ j rfl) (uG rfl) rfl (BVs.refl _ _) (l _ _  h7) rfl) ?_;refine aD ?_;refine tih h (fun c8 h => ?_) (fun c8 h => ?_)
  ·refine aE (aC (tm (.i a) (ta (.i a) (aD ?_))));obtain rfl := sIn h;exact aU ⟨rfl, _, .one _, rfl, rfl⟩
  ·refine dG ?_;refine aC (to (sar rfl rfl rfl) (tm (.i (w64 (a + 1))) (aD ?_)));exact ⟨(w64 (a + 1)), h, aN [] rfl rfl (aK rfl (aO ⟨rfl, rfl, rfl, trivial⟩))⟩
 ·refine bX ?_;refine .inl ⟨rfl, ?_⟩;simp only [pR] at h;refine aE (aC (ta (.i (-1)) (aD ?_)));obtain rfl := sIn h;exact aU ⟨rfl, _, .one _, rfl, rfl⟩

theorem oR (e : List Int) (j : Int → Option Bool) {r : Bool} (a : Nat) (c : List AV) (f : ∀ args w, (callFunc a args).run Try.prog w = .ok (.enter a args) w) (g : ∀ (x0 : Int) r, j x0 = some r → Fn Try.prog a ([.i x0] ++ c) (.b r)) (h : jU e j = some r) : Fn Try.prog 45 [.d (.sl 1 (e.map bL)), .fn a c] (.b r) := by
 unfold jU at h;refine Fn.of_tr Try.func45 rfl (rs := [.tmp 4]) Try.results45 Try.ntmps45 (Nat.le_of_ble_eq_true rfl) ?_;refine aE (aC (ta (.b false) (aD (aE (aC (tm (.d (.sl 1 (e.map bL))) (tm (.fn a c) ?_)))))));obtain ⟨r1, h2, h⟩ := bns h;refine to (scr Try.call81 (wB _ _ a c f g h2)) (to (scm rfl rfl rfl) (ta (.b (decide (0 ≤ r1))) (aD ?_)));obtain rfl := sIn h;exact aU ⟨rfl, _, .one _, rfl, rfl⟩

theorem wR (a : Int) {r : Bool} (h : rK a = some r) : Fn Try.prog 46 [.i a] (.b r) := by
 unfold rK at h;refine Fn.of_tr Try.func46 rfl (rs := [.tmp 2]) Try.results46 Try.ntmps46 (Nat.le_of_ble_eq_true rfl) ?_;refine aE (aC (ta (.b false) (aD (aE (aC (tm (.i a) ?_))))));obtain ⟨r1, h2, h⟩ := bns h;refine to (scr Try.call47 (dY _ _ _ h2)) (to (sn rfl) (ta (.b (!r1)) (aD ?_)));obtain rfl := sIn h;exact aU ⟨rfl, _, .one _, rfl, rfl⟩

theorem yQ (b : List Int) (c : Int) {r : Int} (h : qZ b c = some r) : Fn Try.prog 85 [.d (.sl 1 (b.map bL)), .i c] (.i r) := by
 unfold qZ at h;refine Fn.of_tr Try.func85 rfl (rs := [.tmp 4]) Try.results85 Try.ntmps85 (Nat.le_of_ble_eq_true rfl) ?_;refine aE (aC (ta (.i 0) (aD (aE (aE (aC (tm (.d (.sl 1 (b.map bL))) (to (sle rfl eN.of) (tm (.i 0) (aD (bB ?_)))))))))));refine bN (S := Int) [0, 1, 7] (fun s1 => [(8, .i s1)]) (fun s1 => []) (fun k s1 => mE b c (b.length : Int) k s1) (fun _ => rfl) (0) h (aN [] rfl rfl (aK rfl (aO ⟨rfl, rfl, rfl, trivial⟩))) ?_;rintro k2 a h;simp only [mE] at h;refine aE (aC (to (scm rfl rfl rfl) (aD (aE ?_))));refine tih h (fun c3 h => ?_) (fun c3 h => ?_)
 ·refine aS (aE (bB (aE (aC (tm (.i a) (ta (.i a) (aD (aE (aC (tm (.i c) (tm (.d (.sl 1 (b.map bL))) (tm (.i a) ?_))))))))))));obtain ⟨x4, h5, h⟩ := bns h;refine to (six rfl rfl eN.of (aX bL h5)) (to (slc rfl aT) (to (scm rfl rfl rfl) (aD ?_)));refine tih h (fun c6 h => ?_) (fun c6 h => ?_)
  ·refine aE (aC (tm (.i a) (ta (.i a) (aD ?_))));obtain rfl := sIn h;exact aU ⟨rfl, _, .one _, rfl, rfl⟩
  ·refine dG ?_;refine aC (to (sar rfl rfl rfl) (tm (.i (w64 (a + 1))) (aD ?_)));exact ⟨(w64 (a + 1)), h, aN [] rfl rfl (aK rfl (aO ⟨rfl, rfl, rfl, trivial⟩))⟩
 ·refine bX ?_;refine .inl ⟨rfl, ?_⟩;simp only [rZ] at h;refine aE (aC (ta (.i (-1)) (aD ?_)));obtain rfl := sIn h;exact aU ⟨rfl, _, .one _, rfl, rfl⟩

theorem zC (b : bD) (a : Int) (c : Int) {r : Int} (h : rM b a c = some r) : Fn Try.prog 51 [.cp (bH b), .i a, .i c] (.i r) := by
 unfold rM at h;refine Fn.of_tr Try.func51 rfl (rs := [.tmp 6]) Try.results51 Try.ntmps51 (Nat.le_of_ble_eq_true rfl) ?_;refine aE (aC (ta (.i 0) (aD (aE (aC (tm (.cp [.lit (.int .i64 b.Ledger.Players), .lit (.int .i64 b.Ledger.Counts), .sl 5 (b.Ledger.Reports.map aA), .sl 3 (b.Ledger.Bans.map aF), .sl 3 (b.Ledger.Frozen.map aF)]) (tm (.i c) ?_)))))));obtain ⟨r1, h2, h⟩ := bns h;refine to (gG (aG rfl) (.func _ _ Try.call59) rfl rfl (uT _ _ h2)) ?_;refine tm (.i a) ?_;obtain ⟨r3, h4, h⟩ := bns h;refine to (scr Try.call85 (yQ _ _ h4)) (to (sar rfl rfl rfl) (ta (.i (w64 (r3 + 1))) (aD ?_)));obtain rfl := sIn h;exact aU ⟨rfl, _, .one _, rfl, rfl⟩

theorem aBq (book : bD) (pl : Int) (wk : Int) (ms : Bool) (be : Int) (wo : Int) {r : Bool × Int × Int} {book_b book_o : Nat} {bb_b bb_o : Nat} {pl_b pl_o : Nat} {wk_b wk_o : Nat} {ms_b ms_o : Nat} {be_b be_o : Nat} {wo_b wo_o : Nat} (h : uR book pl wk ms be wo = some r) : eS Try.prog 50 [.bp bb_b bb_o 0, .bp pl_b pl_o 0, .bp wk_b wk_o 0, .bp ms_b ms_o 0, .bp be_b be_o 0, .bp wo_b wo_o 0] [.box book_b book_o (bH book), .box bb_b bb_o [fT book_b book_o 0], .box pl_b pl_o [.lit (.int .i64 pl)], .box wk_b wk_o [.lit (.int .i64 wk)], .box ms_b ms_o [.lit (.bool ms)], .box be_b be_o [.lit (.int .i64 be)], .box wo_b wo_o [.lit (.int .i64 wo)]] (fun r' o' => r' = .tup [] ∧ o' = [.box book_b book_o (bH book), .box bb_b bb_o [fT book_b book_o 0], .box pl_b pl_o [.lit (.int .i64 pl)], .box wk_b wk_o [.lit (.int .i64 wk)], .box ms_b ms_o [.lit (.bool r.1)], .box be_b be_o [.lit (.int .i64 r.2.1)], .box wo_b wo_o [.lit (.int .i64 r.2.2)]]) := by
 unfold uR at h;refine iU Try.func50 rfl (rs := []) Try.results50 Try.ntmps50 (Nat.le_of_ble_eq_true rfl) ?_;refine aE (aC (to (sZ (i := 1) (aG rfl) rfl rfl rfl wM) ?_));refine to (sl 2 rfl rfl rfl aT) (to (sl 3 rfl rfl rfl aT) ?_);obtain ⟨r1, h2, h⟩ := bns h;refine to (sc Try.call51 (zC _ _ _ h2) (.cons (nQ 0 rfl rfl (dvc (.same _) (dvc (.same _) (dvc (.same _) (dvc (.same _) (dvc (.same _) dvn)))))) (.cons (.same _) (.cons (.same _) .nil)))) (ta (.i r1) (aD (aE (aC (to (sl 4 rfl rfl rfl tR) (tm (.b ms) ?_))))));obtain ⟨b3, h4, h⟩ := bns h;refine aW 3 [3, 4, 5, 6] 15 b3 ?_ ?_
 ·refine bch h4 (fun c6 h4 => ?_) (fun c6 h4 => ?_)
  ·refine tp c6 (tp c6 (to (spt (.b true) c6) ?_));obtain rfl := sIn h4;refine aD (aM rfl ⟨rfl, rfl, rfl, rfl, trivial⟩ rfl)
  ·refine tk c6 (sm (.i r1)) (tk c6 (scm rfl rfl rfl) (to (spf (.b (decide (r1 = 0))) c6) ?_));obtain rfl := sIn h4;refine aD (aM rfl ⟨rfl, rfl, rfl, rfl, trivial⟩ rfl)
 ·refine to (sst 4 rfl rfl Try.sizeOf4 [.lit (.bool b3)]) (aD ?_);refine jC mix 7 [5] (fun X5 => [(21, .i (max wo r1))]) (fun X5 => [.box book_b book_o (bH book), .box bb_b bb_o [fT book_b book_o 0], .box pl_b pl_o [.lit (.int .i64 pl)], .box wk_b wk_o [.lit (.int .i64 wk)], .box ms_b ms_o [.lit (.bool b3)], .box be_b be_o [.lit (.int .i64 (min be r1))], .box wo_b wo_o [.lit (.int .i64 wo)]]) ?_ ?_
  ·refine ⟨0, fun X5 => [(16, 0, .i be), (17, 1, .i r1), (18, 2, .i (min be r1)), (19, 3, .i wo), (20, 4, .i r1), (21, 5, .i (max wo r1))], fun X5 => [([], .box book_b book_o (bH book)), ([], .box bb_b bb_o [fT book_b book_o 0]), ([], .box pl_b pl_o [.lit (.int .i64 pl)]), ([], .box wk_b wk_o [.lit (.int .i64 wk)]), ([], .box ms_b ms_o [.lit (.bool b3)]), ([(6, .box be_b be_o [.lit (.int .i64 (min be r1))])], .box be_b be_o [.lit (.int .i64 be)]), ([], .box wo_b wo_o [.lit (.int .i64 wo)])], ?_, ?_⟩
   · exact ⟨by kernel_rfl, by kernel_rfl, by kernel_rfl, fun _ => by kernel_rfl, fun _ => by kernel_rfl, fun _ => by kernel_rfl, fun _ => rfl, [([], [6]), ([], [6]), ([0, 1], [6]), ([], []), ([], []), ([3, 4], []), ([2], [])], by kernel_rfl, ⟨fun X5 S hw hi hS => aQ (X := X5) rfl (hw X5) rfl (aY rfl (gI (aG rfl) (aL hS rfl) (i := 5) (og hS rfl rfl) rfl aT)),
      fun X5 S hw hi hS => aQ (X := X5) rfl (hw X5) rfl (aY rfl (bW (v := .i r1) (aG rfl) (aL hS rfl) rfl)),
      fun X5 S hw hi hS => aQ (X := X5) rfl (hw X5) rfl (aY rfl (aGd (aG rfl) (aL hS rfl) (aL hS rfl))),
      fun X5 S hw hi hS => aQ (X := X5) rfl (hw X5) rfl (aY rfl (gI (aG rfl) (aL hS rfl) (i := 6) (og hS rfl rfl) rfl aT)),
      fun X5 S hw hi hS => aQ (X := X5) rfl (hw X5) rfl (aY rfl (bW (v := .i r1) (aG rfl) (aL hS rfl) rfl)),
      fun X5 S hw hi hS => aQ (X := X5) rfl (hw X5) rfl (aY rfl (aCx (aG rfl) (aL hS rfl) (aL hS rfl))),
      fun X5 S hw hi hS => oE (X := X5) hS rfl rfl rfl (p := 5) rfl rfl (aY rfl (pP (i := 5) (aL hS rfl) (og hS rfl rfl) (aL hS rfl) rfl rfl Try.sizeOf3 rfl (aG rfl) (Nat.le_of_ble_eq_true rfl) (ds' := [.lit (.int .i64 (min be r1))]) rfl)), trivial⟩⟩
   · exact fun X5 => cW (aK rfl (aO ⟨rfl, trivial⟩))
  ·intro X5;refine to (sst 6 rfl rfl Try.sizeOf3 [.lit (.int .i64 (max wo r1))]) (aD ?_);obtain rfl := sIn h;exact ⟨_, [.box book_b book_o (bH book), .box bb_b bb_o [fT book_b book_o 0], .box pl_b pl_o [.lit (.int .i64 pl)], .box wk_b wk_o [.lit (.int .i64 wk)], .box ms_b ms_o [.lit (.bool b3)], .box be_b be_o [.lit (.int .i64 (min be r1))], .box wo_b wo_o [.lit (.int .i64 (max wo r1))]], [], _, .none, .refl _, .same _, rfl, rfl⟩

theorem yP (a : Int) {r : (List Int)} (h : rT a = some r) : eS Try.prog 102 [.d (.lit (.slice none 0 0)), .i a] [] (fun r' o' => ∃ (w0 : Value), r' = .d (.lit w0) ∧ o' = [.arr w0 3 1 (r.map bL)]) := by
 unfold rT at h;refine kI Try.func102 rfl (rs := [.tmp 4]) Try.results102 Try.ntmps102 (Nat.le_of_ble_eq_true rfl) ?_;refine bP (tP 3 1) ?_;refine aE (aC (to (hY 3 1 (.inl rfl) (aG rfl)) ?_));refine aD (aE (aE (aC (tm (.i a) (to (scm rfl rfl rfl) (aD ?_))))));refine tih h (fun c2 h => ?_) (fun c2 h => ?_)
 ·cases h
 ·refine aS (aE (aE (aC (tm (.i a) (tm (.d (.lit (.slice none 0 0))) (to (vN (aG rfl) rfl eN.of) ?_))))));refine tm (.d (.lit (.slice none 0 0))) (to (vO (aG rfl) rfl eN.of) ?_);refine to (sar rfl rfl rfl) (to (sar rfl rfl rfl) (ta (.i (w64 (a - (w64 (0 - 0))))) (aD (aE (aC (tm (.i (w64 (a - (w64 (0 - 0))))) (to (scm rfl rfl rfl) (aD ?_))))))));refine tih h (fun c3 h => ?_) (fun c3 h => ?_)
  ·refine aC (tm (.d (.lit (.slice none 0 0))) (tm (.d (.lit (.slice none 0 0))) (to (vN (aG rfl) rfl eN.of) ?_)));obtain ⟨u4, h5, h⟩ := bns h;refine to (nL (m := 0) (q := 0) (v := (.slice none 0 0)) (aG rfl) rfl rfl rfl rfl (wD h5) eN.of) ?_;refine tm (.i (w64 (a - (w64 (0 - 0))))) ?_;obtain ⟨u6, h7, h⟩ := bns h;refine aZ rfl (aEb (i := 0) (aG rfl) eN rfl rfl rfl Try.underlying3 (wW h7).1 (wW h7).2 (by decide)) ?_;rintro _ ⟨v8, rfl⟩;refine tm (.d (.lit (.slice none 0 0))) (to (vO (aG rfl) rfl eN.of) ?_);obtain ⟨u9, b, h⟩ := bns h;refine to (nL (m := 0) (q := 0) (v := v8) (aG rfl) rfl rfl rfl rfl (wD b) eN.of) ?_;refine ta (.d (.lit (eG v8 0))) (aD (aE (aC (tm (.d (.lit (eG v8 0))) (ta (.d (.lit (eG v8 0))) (aD ?_))))));obtain rfl := sIn h;exact aU ⟨rfl, _, [.arr (eG v8 0) 3 1 (([] : List Int).map bL)], [.arr (.slice none 0 0) 3 1 (([] : List Int).map bL)], _, .one (.tmp 4 (v := .d (.lit (eG v8 0))) rfl), .refl _, .same _, (eG v8 0), rfl, rfl⟩
  ·refine aS (aE (aC (tm (.d (.lit (.slice none 0 0))) (ta (.d (.lit (.slice none 0 0))) (aD ?_)))));obtain rfl := sIn h;exact aU ⟨rfl, _, [.arr (.slice none 0 0) 3 1 (([] : List Int).map bL)], [.arr (.slice none 0 0) 3 1 (([] : List Int).map bL)], _, .one (.tmp 4 (v := .d (.lit (.slice none 0 0))) rfl), .refl _, .same _, (.slice none 0 0), rfl, rfl⟩

theorem xQ (a : List (List Int)) {r : (List Int)} (h : pY a = some r) : Fn Try.prog 84 [.d (.sl 1 (a.map rA))] (.d (.sl 1 (r.map bL))) := by
 unfold pY at h;refine Fn.of_tr Try.func84 rfl (rs := [.tmp 2]) Try.results84 Try.ntmps84 (Nat.le_of_ble_eq_true rfl) ?_;refine aE (aC (to (vP 1 (aG rfl)) ?_));refine aD (aE (aC (ta (.i 0) (aD (aE (aE (aC (tm (.d (.sl 1 (a.map rA))) (to (sle rfl yO.of) (tm (.i 0) (aD (bB ?_))))))))))));refine bN (S := Int × Int) [0, 9, 10] (fun s1 => [(3, .i s1.1), (11, .i s1.2)]) (fun s1 => []) (fun k s1 => lM a a (a.length : Int) k s1.1 s1.2) (fun _ => rfl) (0, 0) h (aN [] rfl rfl (aK rfl (aK rfl (aO ⟨rfl, rfl, rfl, trivial⟩)))) ?_;rintro k2 ⟨b, g⟩ h;simp only [lM] at h;refine aE (aC (to (scm rfl rfl rfl) (aD (aE ?_))));refine tih h (fun c3 h => ?_) (fun c3 h => ?_)
 ·refine aS (aE (bB (aE (aC ?_))));obtain ⟨x4, h5, h⟩ := bns h;refine to (six rfl rfl yO.of (aX rA h5)) (to (slc rfl aGy) (ta (.d (.sl 1 (x4.map bL))) (aD (aE (aC (tm (.i b) (tm (.d (.sl 1 (x4.map bL))) (to (sle rfl eN.of) (to (sar rfl rfl rfl) (ta (.i (w64 (b + (x4.length : Int)))) (aD (aE (aC ?_)))))))))))));refine tm (.i (w64 (b + (x4.length : Int)))) (to (scm rfl rfl rfl) (aD ?_));refine tih h (fun c6 h => ?_) (fun c6 h => ?_)
  ·cases h
  ·refine dG ?_;refine aC (to (sar rfl rfl rfl) (tm (.i (w64 (g + 1))) (aD ?_)));exact ⟨(w64 (b + (x4.length : Int)), w64 (g + 1)), h, aN [] rfl rfl (aK rfl (aK rfl (aO ⟨rfl, rfl, rfl, trivial⟩)))⟩
 ·refine bX ?_;refine .inl ⟨rfl, ?_⟩;simp only [rQ] at h;refine aE (aC (tm (.i b) ?_));obtain ⟨r7, h8, h⟩ := bns h;refine aZ rfl (pN (aG rfl) (.func _ _ Try.call102) rfl rfl (yP _ h8)) ?_;rintro _ ⟨v9, rfl⟩;refine ta (.d (.lit v9)) (aD (aE (aE (aC (tm (.d (.sl 1 (a.map rA))) (to (sle rfl yO.of) (tm (.i 0) (aD (bB ?_)))))))));refine bN (S := Int × (List Int) × Value) [25, 26] (fun c => [(6, .d (.lit c.2.2)), (27, .i c.1)]) (fun c => [.arr c.2.2 3 1 (c.2.1.map bL)]) (fun k c => lN a (a.length : Int) k c.1 c.2.1) (fun _ => rfl) (0, r7, v9) h (aN [0] rfl rfl (aK rfl (aK rfl (aO ⟨rfl, rfl, trivial⟩)))) ?_;rintro t ⟨e, j, l⟩ h;simp only [lN] at h;refine aE (aC (to (scm rfl rfl rfl) (aD (aE ?_))));refine tih h (fun o h => ?_) (fun o h => ?_)
  ·refine aS (aE (bB (aE (aC ?_))));obtain ⟨m, p, h⟩ := bns h;refine to (six rfl rfl yO.of (aX rA p)) (to (slc rfl aGy) (ta (.d (.sl 1 (m.map bL))) (aD (aC (tm (.d (.lit l)) (tm (.d (.sl 1 (m.map bL))) ?_))))));obtain ⟨q, s, h⟩ := bns h;refine aZ rfl (lP (i := 0) (aG rfl) eN rfl rfl rfl (fun _ => rfl) s rfl) ?_;rintro _ ⟨n, rfl⟩;refine ta (.d (.lit n)) ?_;refine dE ?_;refine aC (to (sar rfl rfl rfl) (tm (.i (w64 (e + 1))) (aD ?_)));exact ⟨(w64 (e + 1), q, n), h, aN [0] rfl rfl (aK rfl (aK rfl (aO ⟨rfl, rfl, trivial⟩)))⟩
  ·refine bX ?_;refine .inl ⟨rfl, ?_⟩;simp only [rR] at h;refine aE (aC (tm (.d (.lit l)) (ta (.d (.lit l)) (aD ?_))));obtain rfl := sIn h;refine bP (bG (eP (k := 2) (v := .d (.sl 1 (j.map bL))) (.d (fO 0 rfl (bZ (f := bL) fun _ => rfl))) (yX))) ?_;exact aU ⟨rfl, _, .one _, rfl, rfl⟩

end Go.Am
