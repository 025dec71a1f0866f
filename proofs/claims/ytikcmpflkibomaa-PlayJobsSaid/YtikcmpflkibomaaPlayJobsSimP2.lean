/- The functions compute what the shallow ones say: printed by program. -/
import Derived.Test.YtikcmpflkibomaaPlayJobsSimP1
namespace Go.Am
open Go.Proofs
set_option maxRecDepth 100000
set_option maxHeartbeats 4000000

theorem tT {r : Bool} (h : mM = some r) : Fn Try.prog 16 [] (.d (.lit (.bool r))) := by
 unfold mM at h
 refine Fn.of_tr Try.func16 rfl (rs := [.tmp 0]) Try.results16 Try.ntmps16 (Nat.le_of_ble_eq_true rfl) ?_
 refine aF ?_
 refine aC ?_
 refine tr1 rfl (aH (v := .d (.lit (.bool false))) (aA rfl) rfl rfl) ?_
 refine aG ?_
 refine aF ?_
 refine aC ?_
 obtain ⟨r1, h2, h⟩ := bind_some h
 refine tr1 rfl (fT (aA rfl) (.func _ _ Try.call49) rfl rfl (yK h2)) ?_
 refine tr1 rfl (aD (v := .tup [.agg (bV r1.1), .d (.sl 3 (r1.2.map aV))]) (aA rfl) rfl rfl) ?_
 refine tr1 rfl (cD (aA rfl) rfl rfl) ?_
 refine tr1 rfl (cD (aA rfl) rfl rfl) ?_
 refine cE rfl (dM (zs := [.sl 1 ((([] : List (List bO))).map bS), .lit (.int .i64 0), .sl 6 ((([] : List cI)).map aQ)]) (aA rfl) Try.zeroValue25 rfl rfl) ?_
 rintro _ ⟨b3, rfl⟩
 refine tr1 rfl (cM (i := 0) rfl rfl rfl rfl rfl Try.sizeOf25 rfl (aA rfl) (Nat.le_of_ble_eq_true rfl) (ds' := (bV r1.1)) rfl) ?_
 refine tr1 rfl (aH (v := .d (.sl 3 (r1.2.map aV))) (aA rfl) rfl rfl) ?_
 refine aG ?_
 refine aF ?_
 refine aC ?_
 refine tr1 rfl (bN (aA rfl) rfl (i := 0) rfl iP (es := (bV r1.1)) rfl rfl) ?_
 refine tr1 rfl (aD (v := .d (.sl 3 (r1.2.map aV))) (aA rfl) rfl rfl) ?_
 obtain ⟨r4, h5, h⟩ := bind_some h
 refine tr1 rfl (cL (aA rfl) (.func _ _ Try.call18) rfl rfl (BVs.refl _ _) (aIp _ _ h5) rfl) ?_
 refine tr1 rfl (aD (v := .tup [.d (.lit (.bool r4.1)), .d (.lit (.int .i64 r4.2.1)), .d (.lit (.int .i64 r4.2.2))]) (aA rfl) rfl rfl) ?_
 refine tr1 rfl (cD (aA rfl) rfl rfl) ?_
 refine tr1 rfl (cD (aA rfl) rfl rfl) ?_
 refine tr1 rfl (cD (aA rfl) rfl rfl) ?_
 refine tr1 rfl (aH (v := .d (.lit (.bool r4.1))) (aA rfl) rfl rfl) ?_
 refine tr1 rfl (aH (v := .d (.lit (.int .i64 r4.2.1))) (aA rfl) rfl rfl) ?_
 refine tr1 rfl (aH (v := .d (.lit (.int .i64 r4.2.2))) (aA rfl) rfl rfl) ?_
 refine aG ?_
 refine aF ?_
 refine aC ?_
 refine tr1 rfl (bN (aA rfl) rfl (i := 0) rfl iP (es := (bV r1.1)) rfl rfl) ?_
 obtain ⟨r6, h7, h⟩ := bind_some h
 refine tr1 rfl (cL (aA rfl) (.func _ _ Try.call23) rfl rfl (BVs.refl _ _) (aIo _ h7) rfl) ?_
 refine tr1 rfl (aD (v := .tup [.d (.lit (.int .i64 r6.1)), .d (.lit (.int .i64 r6.2))]) (aA rfl) rfl rfl) ?_
 refine tr1 rfl (cD (aA rfl) rfl rfl) ?_
 refine tr1 rfl (cD (aA rfl) rfl rfl) ?_
 refine tr1 rfl (aH (v := .d (.lit (.int .i64 r6.1))) (aA rfl) rfl rfl) ?_
 refine tr1 rfl (aH (v := .d (.lit (.int .i64 r6.2))) (aA rfl) rfl rfl) ?_
 refine aG ?_
 refine aF ?_
 refine aC ?_
 refine tr1 rfl (bN (aA rfl) rfl (i := 0) rfl iP (es := (bV r1.1)) rfl rfl) ?_
 refine tr1 rfl (aD (v := .d (.sl 3 (r1.2.map aV))) (aA rfl) rfl rfl) ?_
 obtain ⟨r8, h9, h⟩ := bind_some h
 refine tr1 rfl (fT (aA rfl) (.func _ _ Try.call17) rfl rfl (aHr _ _ h9)) ?_
 refine tr1 rfl (aD (v := .tup [.d (.sl 2 (r8.1.map bF)), .d (.sl 2 (r8.2.1.map bF)), .d (.lit (.int .i64 r8.2.2))]) (aA rfl) rfl rfl) ?_
 refine tr1 rfl (cD (aA rfl) rfl rfl) ?_
 refine tr1 rfl (cD (aA rfl) rfl rfl) ?_
 refine tr1 rfl (cD (aA rfl) rfl rfl) ?_
 refine tr1 rfl (aH (v := .d (.sl 2 (r8.1.map bF))) (aA rfl) rfl rfl) ?_
 refine tr1 rfl (aH (v := .d (.sl 2 (r8.2.1.map bF))) (aA rfl) rfl rfl) ?_
 refine tr1 rfl (aH (v := .d (.lit (.int .i64 r8.2.2))) (aA rfl) rfl rfl) ?_
 refine aG ?_
 refine aF ?_
 refine aC ?_
 refine tr1 rfl (aD (v := .d (.lit (.int .i64 r4.2.2))) (aA rfl) rfl rfl) ?_
 refine tr1 rfl (bR (aA rfl) rfl rfl rfl) ?_
 refine tr1 rfl (aD (v := .d (.lit (.bool ((decide (r4.2.2 = 0)))))) (aA rfl) rfl rfl) ?_
 obtain ⟨b10, h11, h⟩ := bind_some h
 refine cS 3 [3, 4, 6, 8, 10] 39 b10 ?_ ?_
 ·refine bY (decide (r4.2.2 = 0)) (fun c32 => ?_) (fun c32 => ?_)
  ·have h11 := aX c32 h11
   refine aM rfl rfl (aA rfl) rfl c32 (aD (v := .d (.lit (.int .i64 r6.2))) (aA rfl) rfl rfl) ?_
   refine aM rfl rfl (aA rfl) rfl c32 (bR (aA rfl) rfl rfl rfl) ?_
   refine tr1 rfl (cC (v := .d (.lit (.bool ((decide (r6.2 = 0)))))) (aA rfl) rfl c32 rfl rfl) ?_
   have h11 := Option.some.inj h11
   subst h11
   refine aG (bM rfl ⟨rfl, rfl, rfl, rfl, rfl, trivial⟩ rfl)
  ·have h11 := aY c32 h11
   refine aO rfl rfl (aA rfl) rfl (aA rfl) rfl c32 ?_
   refine aO rfl rfl (aA rfl) rfl (aA rfl) rfl c32 ?_
   refine tr1 rfl (cB (v := .d (.lit (.bool false))) (aA rfl) rfl c32 rfl rfl) ?_
   have h11 := Option.some.inj h11
   subst h11
   refine aG (bM rfl ⟨rfl, rfl, rfl, rfl, rfl, trivial⟩ rfl)
 ·refine tr1 rfl (aD (v := .d (.lit (.bool b10))) (aA rfl) rfl rfl) ?_
  obtain ⟨b12, h13, h⟩ := bind_some h
  refine cS 3 [3, 4, 6, 8] 43 b12 ?_ ?_
  ·refine bY (b10) (fun c31 => ?_) (fun c31 => ?_)
   ·have h13 := aX c31 h13
    refine aM rfl rfl (aA rfl) rfl c31 (aD (v := .d (.lit (.int .i64 r8.2.2))) (aA rfl) rfl rfl) ?_
    refine aM rfl rfl (aA rfl) rfl c31 (bR (aA rfl) rfl rfl rfl) ?_
    refine tr1 rfl (cC (v := .d (.lit (.bool ((decide (r8.2.2 = 0)))))) (aA rfl) rfl c31 rfl rfl) ?_
    have h13 := Option.some.inj h13
    subst h13
    refine aG (bM rfl ⟨rfl, rfl, rfl, rfl, trivial⟩ rfl)
   ·have h13 := aY c31 h13
    refine aO rfl rfl (aA rfl) rfl (aA rfl) rfl c31 ?_
    refine aO rfl rfl (aA rfl) rfl (aA rfl) rfl c31 ?_
    refine tr1 rfl (cB (v := .d (.lit (.bool false))) (aA rfl) rfl c31 rfl rfl) ?_
    have h13 := Option.some.inj h13
    subst h13
    refine aG (bM rfl ⟨rfl, rfl, rfl, rfl, trivial⟩ rfl)
  ·refine tr1 rfl (aD (v := .d (.lit (.bool b12))) (aA rfl) rfl rfl) ?_
   obtain ⟨b14, h15, h⟩ := bind_some h
   refine cS 2 [4, 6, 8] 46 b14 ?_ ?_
   ·refine bY (b12) (fun c30 => ?_) (fun c30 => ?_)
    ·have h15 := aX c30 h15
     refine aM rfl rfl (aA rfl) rfl c30 (aD (v := .d (.lit (.bool r4.1))) (aA rfl) rfl rfl) ?_
     refine tr1 rfl (cC (v := .d (.lit (.bool r4.1))) (aA rfl) rfl c30 rfl rfl) ?_
     have h15 := Option.some.inj h15
     subst h15
     refine aG (bM rfl ⟨rfl, rfl, rfl, trivial⟩ rfl)
    ·have h15 := aY c30 h15
     refine aO rfl rfl (aA rfl) rfl (aA rfl) rfl c30 ?_
     refine tr1 rfl (cB (v := .d (.lit (.bool false))) (aA rfl) rfl c30 rfl rfl) ?_
     have h15 := Option.some.inj h15
     subst h15
     refine aG (bM rfl ⟨rfl, rfl, rfl, trivial⟩ rfl)
   ·refine tr1 rfl (aD (v := .d (.lit (.bool b14))) (aA rfl) rfl rfl) ?_
    obtain ⟨b16, h17, h⟩ := bind_some h
    refine cS 3 [6, 8] 50 b16 ?_ ?_
    ·refine bY (b14) (fun c29 => ?_) (fun c29 => ?_)
     ·have h17 := aX c29 h17
      refine aM rfl rfl (aA rfl) rfl c29 (aD (v := .d (.lit (.int .i64 r4.2.1))) (aA rfl) rfl rfl) ?_
      refine aM rfl rfl (aA rfl) rfl c29 (bR (aA rfl) rfl rfl rfl) ?_
      refine tr1 rfl (cC (v := .d (.lit (.bool ((decide (r4.2.1 = (-1))))))) (aA rfl) rfl c29 rfl rfl) ?_
      have h17 := Option.some.inj h17
      subst h17
      refine aG (bM rfl ⟨rfl, rfl, trivial⟩ rfl)
     ·have h17 := aY c29 h17
      refine aO rfl rfl (aA rfl) rfl (aA rfl) rfl c29 ?_
      refine aO rfl rfl (aA rfl) rfl (aA rfl) rfl c29 ?_
      refine tr1 rfl (cB (v := .d (.lit (.bool false))) (aA rfl) rfl c29 rfl rfl) ?_
      have h17 := Option.some.inj h17
      subst h17
      refine aG (bM rfl ⟨rfl, rfl, trivial⟩ rfl)
    ·refine tr1 rfl (aD (v := .d (.lit (.bool b16))) (aA rfl) rfl rfl) ?_
     obtain ⟨b18, h19, h⟩ := bind_some h
     refine cS 3 [8] 54 b18 ?_ ?_
     ·refine bY (b16) (fun c28 => ?_) (fun c28 => ?_)
      ·have h19 := aX c28 h19
       refine aM rfl rfl (aA rfl) rfl c28 (aD (v := .d (.lit (.int .i64 r6.1))) (aA rfl) rfl rfl) ?_
       refine aM rfl rfl (aA rfl) rfl c28 (bR (aA rfl) rfl rfl rfl) ?_
       refine tr1 rfl (cC (v := .d (.lit (.bool ((decide (r6.1 = 1)))))) (aA rfl) rfl c28 rfl rfl) ?_
       have h19 := Option.some.inj h19
       subst h19
       refine aG (bM rfl ⟨rfl, trivial⟩ rfl)
      ·have h19 := aY c28 h19
       refine aO rfl rfl (aA rfl) rfl (aA rfl) rfl c28 ?_
       refine aO rfl rfl (aA rfl) rfl (aA rfl) rfl c28 ?_
       refine tr1 rfl (cB (v := .d (.lit (.bool false))) (aA rfl) rfl c28 rfl rfl) ?_
       have h19 := Option.some.inj h19
       subst h19
       refine aG (bM rfl ⟨rfl, trivial⟩ rfl)
     ·refine tr1 rfl (aD (v := .d (.lit (.bool b18))) (aA rfl) rfl rfl) ?_
      obtain ⟨b20, h21, h⟩ := bind_some h
      refine cS 4 [8] 59 b20 ?_ ?_
      ·refine bY (b18) (fun c27 => ?_) (fun c27 => ?_)
       ·have h21 := aX c27 h21
        refine aM rfl rfl (aA rfl) rfl c27 (aD (v := .d (.sl 2 (r8.1.map bF))) (aA rfl) rfl rfl) ?_
        refine aM rfl rfl (aA rfl) rfl c27 (dC (aA rfl) rfl lI.of) ?_
        refine aM rfl rfl (aA rfl) rfl c27 (bR (aA rfl) rfl rfl rfl) ?_
        refine tr1 rfl (cC (v := .d (.lit (.bool ((decide ((r8.1.length : Int) = 3)))))) (aA rfl) rfl c27 rfl rfl) ?_
        have h21 := Option.some.inj h21
        subst h21
        refine aG (bM rfl ⟨rfl, trivial⟩ rfl)
       ·have h21 := aY c27 h21
        refine aO rfl rfl (aA rfl) rfl (aA rfl) rfl c27 ?_
        refine aO rfl rfl (aA rfl) rfl (aA rfl) rfl c27 ?_
        refine aO rfl rfl (aA rfl) rfl (aA rfl) rfl c27 ?_
        refine tr1 rfl (cB (v := .d (.lit (.bool false))) (aA rfl) rfl c27 rfl rfl) ?_
        have h21 := Option.some.inj h21
        subst h21
        refine aG (bM rfl ⟨rfl, trivial⟩ rfl)
      ·refine tr1 rfl (aD (v := .d (.lit (.bool b20))) (aA rfl) rfl rfl) ?_
       obtain ⟨b22, h23, h⟩ := bind_some h
       refine cS 6 [] 66 b22 ?_ ?_
       ·refine bY (b20) (fun c24 => ?_) (fun c24 => ?_)
        ·have h23 := aX c24 h23
         refine aM rfl rfl (aA rfl) rfl c24 (aD (v := .d (.sl 2 (r8.1.map bF))) (aA rfl) rfl rfl) ?_
         obtain ⟨x25, h26, h23⟩ := bind_some h23
         refine aM rfl rfl (aA rfl) rfl c24 (bJ (aA rfl) rfl rfl lI.of (bP bF h26)) ?_
         refine aM rfl rfl (aA rfl) rfl c24 (dB (aA rfl) rfl gW (es := (bF x25)) rfl rfl) ?_
         refine aM rfl rfl (aA rfl) rfl c24 (eA (aA rfl) qY (zs := [.lit (.int .i64 0), .lit (.int .i64 0)]) rfl rfl rfl rfl (es := [.lit (.int .i64 690), .lit (.int .i64 750)]) rfl) ?_
         refine aM rfl rfl (aA rfl) rfl c24 (aKo (a := x25) (b := (bO.mk 690 750)) (aA rfl) rfl rfl rfl rfl Try.eqGuardType34 xJ) ?_
         refine tr1 rfl (cC (v := .d (.lit (.bool ((decide (x25 = (bO.mk 690 750))))))) (aA rfl) rfl c24 rfl rfl) ?_
         have h23 := Option.some.inj h23
         subst h23
         refine aG (bM rfl trivial rfl)
        ·have h23 := aY c24 h23
         refine aO rfl rfl (aA rfl) rfl (aA rfl) rfl c24 ?_
         refine aO rfl rfl (aA rfl) rfl (aA rfl) rfl c24 ?_
         refine aO rfl rfl (aA rfl) rfl (aA rfl) rfl c24 ?_
         refine aO rfl rfl (aA rfl) rfl (aA rfl) rfl c24 ?_
         refine aO rfl rfl (aA rfl) rfl (aA rfl) rfl c24 ?_
         refine tr1 rfl (cB (v := .d (.lit (.bool false))) (aA rfl) rfl c24 rfl rfl) ?_
         have h23 := Option.some.inj h23
         subst h23
         refine aG (bM rfl trivial rfl)
       ·refine tr1 rfl (aH (v := .d (.lit (.bool b22))) (aA rfl) rfl rfl) ?_
        refine aG ?_
        have h := Option.some.inj h
        subst h
        refine cQ (cF (cN (l := [0]) ⟨rfl, trivial⟩)) ?_
        exact bU ⟨rfl, _, .one _, rfl, rfl⟩

theorem gB (n_0 : Int) (low_1 : Int) (high_2 : Int) {r : Bool} (h : fS n_0 low_1 high_2 = some r) : Fn Try.prog 120 [.d (.lit (.int .i64 n_0)), .d (.lit (.int .i64 low_1)), .d (.lit (.int .i64 high_2))] (.d (.lit (.bool r))) := by
 unfold fS at h
 refine Fn.of_tr Try.func120 rfl (rs := [.tmp 6]) Try.results120 Try.ntmps120 (Nat.le_of_ble_eq_true rfl) ?_
 refine aF ?_
 refine aC ?_
 refine tr1 rfl (aH (v := .d (.lit (.bool false))) (aA rfl) rfl rfl) ?_
 refine aG ?_
 refine aF ?_
 refine aC ?_
 refine tr1 rfl (aD (v := .d (.lit (.int .i64 low_1))) (aA rfl) rfl rfl) ?_
 refine tr1 rfl (aD (v := .d (.lit (.int .i64 n_0))) (aA rfl) rfl rfl) ?_
 refine tr1 rfl (bR (aA rfl) rfl rfl rfl) ?_
 refine tr1 rfl (aD (v := .d (.lit (.bool ((decide (low_1 ≤ n_0)))))) (aA rfl) rfl rfl) ?_
 obtain ⟨b1, h2, h⟩ := bind_some h
 refine cS 4 [] 14 b1 ?_ ?_
 ·refine bY (decide (low_1 ≤ n_0)) (fun c3 => ?_) (fun c3 => ?_)
  ·have h2 := aX c3 h2
   refine aM rfl rfl (aA rfl) rfl c3 (aD (v := .d (.lit (.int .i64 n_0))) (aA rfl) rfl rfl) ?_
   refine aM rfl rfl (aA rfl) rfl c3 (aD (v := .d (.lit (.int .i64 high_2))) (aA rfl) rfl rfl) ?_
   refine aM rfl rfl (aA rfl) rfl c3 (bR (aA rfl) rfl rfl rfl) ?_
   refine tr1 rfl (cC (v := .d (.lit (.bool ((decide (n_0 ≤ high_2)))))) (aA rfl) rfl c3 rfl rfl) ?_
   have h2 := Option.some.inj h2
   subst h2
   refine aG (bM rfl trivial rfl)
  ·have h2 := aY c3 h2
   refine aO rfl rfl (aA rfl) rfl (aA rfl) rfl c3 ?_
   refine aO rfl rfl (aA rfl) rfl (aA rfl) rfl c3 ?_
   refine aO rfl rfl (aA rfl) rfl (aA rfl) rfl c3 ?_
   refine tr1 rfl (cB (v := .d (.lit (.bool false))) (aA rfl) rfl c3 rfl rfl) ?_
   have h2 := Option.some.inj h2
   subst h2
   refine aG (bM rfl trivial rfl)
 ·refine tr1 rfl (aH (v := .d (.lit (.bool b1))) (aA rfl) rfl rfl) ?_
  refine aG ?_
  have h := Option.some.inj h
  subst h
  exact bU ⟨rfl, _, .one _, rfl, rfl⟩

theorem aCw (t_0 : bD) {r : Bool} (h : mI t_0 = some r) : Fn Try.prog 102 [.agg (bG t_0)] (.d (.lit (.bool r))) := by
 unfold mI at h
 refine Fn.of_tr Try.func102 rfl (rs := [.tmp 2]) Try.results102 Try.ntmps102 (Nat.le_of_ble_eq_true rfl) ?_
 refine aF ?_
 refine aC ?_
 refine cE rfl (eC (v := .agg (bG t_0)) (aA rfl) rfl rfl rfl) ?_
 rintro _ ⟨b1, rfl⟩
 refine tr1 rfl (aH (v := .d (.lit (.bool false))) (aA rfl) rfl rfl) ?_
 refine aG ?_
 refine aF ?_
 refine aF ?_
 obtain ⟨r2, h3, h⟩ := bind_some h
 obtain ⟨b4, h5, h⟩ := bind_some h
 refine eD mix 13 [1] [(18, .d (.lit (.bool b4)))] ?_ ?_
 ·refine bY (!r2) (fun c6 => ?_) (fun c6 => ?_)
  ·have h5 := aX c6 h5
   have h5 := Option.some.inj h5
   subst h5
   refine ⟨[(6, 0, .bp b1 0 0), (7, 1, .d (.lit (.int .i64 t_0.Rounds))), (8, 2, .d (.lit (.bool r2))), (9, 3, .d (.lit (.bool (!r2)))), (10, 4, .d (.lit (.bool (!r2)))), (11, 5, .tup []), (12, 6, .tup []), (13, 7, .tup []), (14, 8, .tup []), (15, 9, .tup []), (16, 10, .tup []), (17, 11, .tup []), (18, 12, .d (.lit (.bool true)))], ?_, ?_⟩
   · exact ⟨by kernel_rfl, by kernel_rfl, by kernel_rfl, by kernel_rfl, by kernel_rfl, [([], []), ([0], []), ([1], []), ([2], []), ([3], []), ([4], []), ([4, 5], []), ([4, 6], []), ([4], []), ([4, 8], []), ([4, 9], []), ([4, 7, 10], []), ([4, 11], [])], by kernel_rfl, ⟨fun S hS => aE rfl (aJ rfl (aN (aA rfl) (aB hS rfl) kL)),
      fun S hS => aE rfl (aJ rfl (aR (aA rfl) (aB hS rfl) (i := 0) rfl rfl bL)),
      fun S hS => aE rfl (aJ rfl (cL (aA rfl) (.func _ _ Try.call120) (ev2 (aB hS rfl) (ev2 rfl (ev2 rfl evn))) rfl (BVs.refl _ _) (gB _ _ _ h3) rfl)),
      fun S hS => aE rfl (aJ rfl (dZ (aA rfl) (aB hS rfl))),
      fun S hS => aE rfl (aJ rfl (aD (v := .d (.lit (.bool (!r2)))) (aA rfl) (aB hS rfl) rfl)),
      fun S hS => aE rfl (aZ rfl rfl (aA rfl) rfl (aA rfl) (aL hS rfl) c6),
      fun S hS => aE rfl (aZ rfl rfl (aA rfl) rfl (aA rfl) (aL hS rfl) c6),
      fun S hS => aE rfl (aZ rfl rfl (aA rfl) rfl (aA rfl) (aL hS rfl) c6),
      fun S hS => aE rfl (aZ rfl rfl (aA rfl) rfl (aA rfl) (aL hS rfl) c6),
      fun S hS => aE rfl (aZ rfl rfl (aA rfl) rfl (aA rfl) (aL hS rfl) c6),
      fun S hS => aE rfl (aZ rfl rfl (aA rfl) rfl (aA rfl) (aL hS rfl) c6),
      fun S hS => aE rfl (aZ rfl rfl (aA rfl) rfl (aA rfl) (aL hS rfl) c6),
      fun S hS => aE rfl (aJ rfl (cC (v := .d (.lit (.bool true))) (aA rfl) (aB hS rfl) c6 rfl rfl)), trivial⟩⟩
   · exact dE (aU rfl (bC ⟨rfl, trivial⟩))
  ·have h5 := aY c6 h5
   obtain ⟨u7, h8, h5⟩ := bind_some h5
   have h5 := Option.some.inj h5
   subst h5
   refine ⟨[(6, 0, .bp b1 0 0), (7, 1, .d (.lit (.int .i64 t_0.Rounds))), (8, 2, .d (.lit (.bool r2))), (9, 3, .d (.lit (.bool (!r2)))), (10, 4, .d (.lit (.bool (!r2)))), (11, 5, .bp b1 0 1), (12, 6, .d (.sl 1 (t_0.Slots.map aP))), (13, 7, .d (.lit (.int .i64 ((t_0.Slots.length : Int))))), (14, 8, .bp b1 0 0), (15, 9, .d (.lit (.int .i64 t_0.Rounds))), (16, 10, .d (.lit (.int .i64 ((w64 (1 * 2 ^ (min t_0.Rounds.toNat 64))))))), (17, 11, .d (.lit (.bool ((!decide ((t_0.Slots.length : Int) = (w64 (1 * 2 ^ (min t_0.Rounds.toNat 64))))))))), (18, 12, .d (.lit (.bool ((!decide ((t_0.Slots.length : Int) = (w64 (1 * 2 ^ (min t_0.Rounds.toNat 64)))))))))], ?_, ?_⟩
   · exact ⟨by kernel_rfl, by kernel_rfl, by kernel_rfl, by kernel_rfl, by kernel_rfl, [([], []), ([0], []), ([1], []), ([2], []), ([3], []), ([4], []), ([4, 5], []), ([4, 6], []), ([4], []), ([4, 8], []), ([4, 9], []), ([4, 7, 10], []), ([4, 11], [])], by kernel_rfl, ⟨fun S hS => aE rfl (aJ rfl (aN (aA rfl) (aB hS rfl) kL)),
      fun S hS => aE rfl (aJ rfl (aR (aA rfl) (aB hS rfl) (i := 0) rfl rfl bL)),
      fun S hS => aE rfl (aJ rfl (cL (aA rfl) (.func _ _ Try.call120) (ev2 (aB hS rfl) (ev2 rfl (ev2 rfl evn))) rfl (BVs.refl _ _) (gB _ _ _ h3) rfl)),
      fun S hS => aE rfl (aJ rfl (dZ (aA rfl) (aB hS rfl))),
      fun S hS => aE rfl (aJ rfl (aD (v := .d (.lit (.bool (!r2)))) (aA rfl) (aB hS rfl) rfl)),
      fun S hS => aE rfl (bA rfl rfl (aA rfl) (aL hS rfl) c6 (aN (aA rfl) (aB hS rfl) eT)),
      fun S hS => aE rfl (bA rfl rfl (aA rfl) (aL hS rfl) c6 (aR (aA rfl) (aB hS rfl) (i := 0) rfl rfl dF)),
      fun S hS => aE rfl (bA rfl rfl (aA rfl) (aL hS rfl) c6 (dC (aA rfl) (aB hS rfl) cT.of)),
      fun S hS => aE rfl (bA rfl rfl (aA rfl) (aL hS rfl) c6 (aN (aA rfl) (aB hS rfl) kL)),
      fun S hS => aE rfl (bA rfl rfl (aA rfl) (aL hS rfl) c6 (aR (aA rfl) (aB hS rfl) (i := 0) rfl rfl bL)),
      fun S hS => aE rfl (bA rfl rfl (aA rfl) (aL hS rfl) c6 (aBy (aA rfl) rfl (aB hS rfl) (rB h8))),
      fun S hS => aE rfl (bA rfl rfl (aA rfl) (aL hS rfl) c6 (bR (aA rfl) (aB hS rfl) (aB hS rfl) rfl)),
      fun S hS => aE rfl (aJ rfl (cB (v := .d (.lit (.bool ((!decide ((t_0.Slots.length : Int) = (w64 (1 * 2 ^ (min t_0.Rounds.toNat 64))))))))) (aA rfl) (aB hS rfl) c6 (aB hS rfl) rfl)), trivial⟩⟩
   · exact dE (aU rfl (bC ⟨rfl, trivial⟩))
 ·refine aG ?_
  refine cA rfl (fun c9 => ?_) (fun c9 => ?_)
  ·have h := aX c9 h
   refine aF ?_
   refine aC ?_
   refine tr1 rfl (aH (v := .d (.lit (.bool false))) (aA rfl) rfl rfl) ?_
   refine aG ?_
   have h := Option.some.inj h
   subst h
   refine cQ (cF (cN (l := [2]) ⟨rfl, trivial⟩)) ?_
   exact bU ⟨rfl, _, .one _, rfl, rfl⟩
  ·have h := aY c9 h
   refine bX ?_
   refine aF ?_
   refine aC ?_
   refine cE rfl (uD (aA rfl)) ?_
   rintro _ ⟨r10, rfl⟩
   refine tr1 rfl (aH (v := .d (.lit (.map (some r10)))) (aA rfl) rfl rfl) ?_
   refine aG ?_
   refine aF ?_
   refine aF ?_
   refine aC ?_
   refine tr1 rfl (aN (aA rfl) rfl eT) ?_
   refine tr1 rfl (aR (aA rfl) rfl (i := 0) rfl rfl dF) ?_
   refine tr1 rfl (dC (aA rfl) rfl cT.of) ?_
   refine tr1 rfl (aD (v := .d (.lit (.int .i64 0))) (aA rfl) rfl rfl) ?_
   refine aG ?_
   refine cO ?_
   refine dG [1, 3, 21, 22] (fun (s11 : Int × (List (Int × Int)) × (List Nat) × Nat) => [(23, .d (.lit (.int .i64 s11.1)))]) (fun (s11 : Int × (List (Int × Int)) × (List Nat) × Nat) => [.box b1 0 (bG t_0), .map r10 (s11.2.1.map fun p : Int × Int => ((fun n : Int => Value.int .i64 n) p.1, (fun v : Int => AV.d (.lit (.int .i64 v))) p.2)) s11.2.2.1 s11.2.2.2]) (fun (k : Nat) (s11 : Int × (List (Int × Int)) × (List Nat) × Nat) => iJ t_0.Slots (t_0.Slots.length : Int) t_0 k s11.1 s11.2.1) (fun _ => rfl) (0, ([] : List (Int × Int)), [], 0) h (bE [0, 1] rfl rfl (aU rfl (bC ⟨rfl, rfl, rfl, rfl, trivial⟩))) ?_
   rintro k14 ⟨t23_0_11, o19_0_11, bs12, ck13⟩ h
   simp only [iJ] at h
   refine aF ?_
   refine aC ?_
   refine tr1 rfl (bR (aA rfl) rfl rfl rfl) ?_
   refine aG ?_
   refine aF ?_
   refine cA rfl (fun c15 => ?_) (fun c15 => ?_)
   ·have h := aX c15 h
    refine bX ?_
    refine aF ?_
    refine cO ?_
    refine aF ?_
    refine aC ?_
    refine tr1 rfl (aD (v := .d (.lit (.int .i64 t23_0_11))) (aA rfl) rfl rfl) ?_
    obtain ⟨x16, h17, h⟩ := bind_some h
    refine tr1 rfl (bJ (aA rfl) rfl rfl cT.of (bP aP h17)) ?_
    refine tr1 rfl (bZ (aA rfl) rfl bL) ?_
    refine tr1 rfl (aH (v := .d (.lit (.int .i64 t23_0_11))) (aA rfl) rfl rfl) ?_
    refine tr1 rfl (aH (v := .d (.lit (.int .i64 x16))) (aA rfl) rfl rfl) ?_
    refine aG ?_
    refine aF ?_
    refine aF ?_
    refine aC ?_
    refine tr1 rfl (aD (v := .d (.lit (.int .i64 x16))) (aA rfl) rfl rfl) ?_
    refine tr1 rfl (bR (aA rfl) rfl rfl rfl) ?_
    refine aG ?_
    refine cA rfl (fun c18 => ?_) (fun c18 => ?_)
    ·have h := aX c18 h
     refine aF ?_
     refine aF ?_
     refine aC ?_
     refine tr1 rfl (aN (aA rfl) rfl eT) ?_
     refine tr1 rfl (aR (aA rfl) rfl (i := 0) rfl rfl dF) ?_
     refine tr1 rfl (aD (v := .d (.lit (.int .i64 t23_0_11))) (aA rfl) rfl rfl) ?_
     refine tr1 rfl (aBj (aA rfl) rfl rfl (.inr (.inr ⟨rfl, rfl⟩))) ?_
     obtain ⟨x19, h20, h⟩ := bind_some h
     refine tr1 rfl (bJ (aA rfl) rfl rfl cT.of (bP aP h20)) ?_
     refine tr1 rfl (bZ (aA rfl) rfl bL) ?_
     refine tr1 rfl (bR (aA rfl) rfl rfl rfl) ?_
     refine aG ?_
     refine cA rfl (fun c21 => ?_) (fun c21 => ?_)
     ·have h := aX c21 h
      refine aF ?_
      refine aC ?_
      refine tr1 rfl (aH (v := .d (.lit (.bool false))) (aA rfl) rfl rfl) ?_
      refine aG ?_
      have h := Option.some.inj h
      subst h
      refine cQ (cF (cN (l := [2]) ⟨rfl, trivial⟩)) ?_
      exact bU ⟨rfl, _, .one _, rfl, rfl⟩
     ·have h := aY c21 h
      refine bX ?_
      refine dA ?_
      refine .inl ⟨rfl, ?_⟩
      refine aC ?_
      refine tr1 rfl (bT (aA rfl) rfl rfl rfl) ?_
      refine tr1 rfl (aD (v := .d (.lit (.int .i64 ((w64 (t23_0_11 + 1)))))) (aA rfl) rfl rfl) ?_
      refine aG ?_
      exact ⟨(w64 (t23_0_11 + 1), o19_0_11, bs12, ck13), h, bE [0, 1] rfl rfl (aU rfl (bC ⟨rfl, rfl, rfl, rfl, trivial⟩))⟩
    ·have h := aY c18 h
     refine bX ?_
     refine aF ?_
     refine aC ?_
     refine tr1 rfl (aD (v := .d (.lit (.map (some r10)))) (aA rfl) rfl rfl) ?_
     refine tr1 rfl (aD (v := .d (.lit (.int .i64 x16))) (aA rfl) rfl rfl) ?_
     refine tr1 rfl (vY (av := (fun v : Int => AV.d (.lit (.int .i64 v)))) (l := o19_0_11) (z := 0) (a := x16) (m := 1) (aA rfl) aKh Try.underlying173 Try.zeroValue3 (fun _ _ => .d (.lit _ rfl)) rfl rfl rfl rfl (aAq (kv := (fun n : Int => Value.int .i64 n)) x16)) ?_
     refine tr1 rfl (bT (aA rfl) rfl rfl rfl) ?_
     refine tr1 rfl (wZ (av := (fun v : Int => AV.d (.lit (.int .i64 v)))) (l := o19_0_11) (v := w64 ((dK x16 0 o19_0_11) + 1)) (a := x16) (m := 1) aKh Try.underlying173 rfl rfl rfl rfl (aAq (kv := (fun n : Int => Value.int .i64 n)) x16) rfl rfl) ?_
     refine aG ?_
     refine aF ?_
     refine aC ?_
     refine tr1 rfl (aD (v := .d (.lit (.map (some r10)))) (aA rfl) rfl rfl) ?_
     refine tr1 rfl (aD (v := .d (.lit (.int .i64 x16))) (aA rfl) rfl rfl) ?_
     refine tr1 rfl (vY (av := (fun v : Int => AV.d (.lit (.int .i64 v)))) (l := (fH x16 (w64 ((dK x16 0 o19_0_11) + 1)) o19_0_11)) (z := 0) (a := x16) (m := 1) (aA rfl) aKh Try.underlying173 Try.zeroValue3 (fun _ _ => .d (.lit _ rfl)) rfl rfl rfl rfl (aAq (kv := (fun n : Int => Value.int .i64 n)) x16)) ?_
     refine tr1 rfl (bR (aA rfl) rfl rfl rfl) ?_
     refine tr1 rfl (aD (v := .d (.lit (.bool ((decide (1 < (dK x16 0 (fH x16 (w64 ((dK x16 0 o19_0_11) + 1)) o19_0_11)))))))) (aA rfl) rfl rfl) ?_
     obtain ⟨b22, h23, h⟩ := bind_some h
     refine cS 4 [1, 3, 21, 22, 23] 49 b22 ?_ ?_
     ·refine bY (decide (1 < (dK x16 0 (fH x16 (w64 ((dK x16 0 o19_0_11) + 1)) o19_0_11)))) (fun c25 => ?_) (fun c25 => ?_)
      ·have h23 := aX c25 h23
       refine aO rfl rfl (aA rfl) rfl (aA rfl) rfl c25 ?_
       refine aO rfl rfl (aA rfl) rfl (aA rfl) rfl c25 ?_
       refine aO rfl rfl (aA rfl) rfl (aA rfl) rfl c25 ?_
       refine tr1 rfl (cC (v := .d (.lit (.bool true))) (aA rfl) rfl c25 rfl rfl) ?_
       have h23 := Option.some.inj h23
       subst h23
       refine aG (bM rfl ⟨rfl, rfl, rfl, rfl, rfl, trivial⟩ rfl)
      ·have h23 := aY c25 h23
       refine aM rfl rfl (aA rfl) rfl c25 (aD (v := .d (.lit (.int .i64 x16))) (aA rfl) rfl rfl) ?_
       obtain ⟨r26, h27, h23⟩ := bind_some h23
       refine aM rfl rfl (aA rfl) rfl c25 (cL (aA rfl) (.func _ _ Try.call120) rfl rfl (BVs.refl _ _) (gB _ _ _ h27) rfl) ?_
       refine aM rfl rfl (aA rfl) rfl c25 (dZ (aA rfl) rfl) ?_
       refine tr1 rfl (cB (v := .d (.lit (.bool (!r26)))) (aA rfl) rfl c25 rfl rfl) ?_
       have h23 := Option.some.inj h23
       subst h23
       refine aG (bM rfl ⟨rfl, rfl, rfl, rfl, rfl, trivial⟩ rfl)
     ·refine aG ?_
      refine cA rfl (fun c24 => ?_) (fun c24 => ?_)
      ·have h := aX c24 h
       refine aF ?_
       refine aC ?_
       refine tr1 rfl (aH (v := .d (.lit (.bool false))) (aA rfl) rfl rfl) ?_
       refine aG ?_
       have h := Option.some.inj h
       subst h
       refine cQ (cF (cN (l := [2]) ⟨rfl, trivial⟩)) ?_
       exact bU ⟨rfl, _, .one _, rfl, rfl⟩
      ·have h := aY c24 h
       refine dY ?_
       refine aC ?_
       refine tr1 rfl (bT (aA rfl) rfl rfl rfl) ?_
       refine tr1 rfl (aD (v := .d (.lit (.int .i64 ((w64 (t23_0_11 + 1)))))) (aA rfl) rfl rfl) ?_
       refine aG ?_
       exact ⟨(w64 (t23_0_11 + 1), (fH x16 (w64 ((dK x16 0 o19_0_11) + 1)) o19_0_11), (mbs x16 o19_0_11 bs12 ck13), (mck x16 o19_0_11 ck13)), h, bE [0, 1] rfl rfl (aU rfl (bC ⟨rfl, rfl, rfl, rfl, trivial⟩))⟩
   ·have h := aY c15 h
    refine dA ?_
    refine .inl ⟨rfl, ?_⟩
    simp only [qR] at h
    refine aF ?_
    refine aC ?_
    refine tr1 rfl (aH (v := .d (.lit (.bool true))) (aA rfl) rfl rfl) ?_
    refine aG ?_
    have h := Option.some.inj h
    subst h
    refine cQ (cF (cN (l := [2]) ⟨rfl, trivial⟩)) ?_
    exact bU ⟨rfl, _, .one _, rfl, rfl⟩

theorem uE (s_0 : List aK) (f_1 : aK → Option Bool) {r : Int} (f_1_f : Nat) (f_1_v : List AV) (f_1_e : ∀ args w, (callFunc f_1_f args).run Try.prog w = .ok (.enter f_1_f args) w) (f_1_h : ∀ (x0 : aK) r, f_1 x0 = some r → Fn Try.prog f_1_f ([.agg (aS x0)] ++ f_1_v) (.d (.lit (.bool r)))) (h : iS s_0 f_1 = some r) : Fn Try.prog 121 [.d (.sl 5 (s_0.map aS)), .fn f_1_f f_1_v] (.d (.lit (.int .i64 r))) := by
 unfold iS at h
 refine Fn.of_tr Try.func121 rfl (rs := [.tmp 4]) Try.results121 Try.ntmps121 (Nat.le_of_ble_eq_true rfl) ?_
 refine aF ?_
 refine aC ?_
 refine tr1 rfl (aH (v := .d (.lit (.int .i64 0))) (aA rfl) rfl rfl) ?_
 refine aG ?_
 refine aF ?_
 refine aF ?_
 refine aC ?_
 refine tr1 rfl (aD (v := .d (.sl 5 (s_0.map aS))) (aA rfl) rfl rfl) ?_
 refine tr1 rfl (dC (aA rfl) rfl iW.of) ?_
 refine tr1 rfl (aD (v := .d (.lit (.int .i64 0))) (aA rfl) rfl rfl) ?_
 refine aG ?_
 refine cO ?_
 refine dG [0, 1, 7] (fun (s1 : Int) => [(8, .d (.lit (.int .i64 s1)))]) (fun (s1 : Int) => []) (fun (k : Nat) (s1 : Int) => eX s_0 f_1 (s_0.length : Int) k s1) (fun _ => rfl) (0) h (bE [] rfl rfl (aU rfl (bC ⟨rfl, rfl, rfl, trivial⟩))) ?_
 rintro k2 t8_0_1 h
 simp only [eX] at h
 refine aF ?_
 refine aC ?_
 refine tr1 rfl (bR (aA rfl) rfl rfl rfl) ?_
 refine aG ?_
 refine aF ?_
 refine cA rfl (fun c3 => ?_) (fun c3 => ?_)
 ·have h := aX c3 h
  refine bX ?_
  refine aF ?_
  refine cO ?_
  refine aF ?_
  refine aC ?_
  refine tr1 rfl (aD (v := .d (.lit (.int .i64 t8_0_1))) (aA rfl) rfl rfl) ?_
  refine tr1 rfl (aH (v := .d (.lit (.int .i64 t8_0_1))) (aA rfl) rfl rfl) ?_
  refine aG ?_
  refine aF ?_
  refine aC ?_
  refine tr1 rfl (aD (v := .fn f_1_f f_1_v) (aA rfl) rfl rfl) ?_
  refine tr1 rfl (aD (v := .d (.sl 5 (s_0.map aS))) (aA rfl) rfl rfl) ?_
  refine tr1 rfl (aD (v := .d (.lit (.int .i64 t8_0_1))) (aA rfl) rfl rfl) ?_
  obtain ⟨x4, h5, h⟩ := bind_some h
  refine tr1 rfl (bJ (aA rfl) rfl rfl iW.of (bP aS h5)) ?_
  refine tr1 rfl (dB (aA rfl) rfl jM (es := (aS x4)) rfl rfl) ?_
  obtain ⟨r6, h7, h⟩ := bind_some h
  refine tr1 rfl (cL (aA rfl) (.clo _ _ _ _ f_1_e rfl) (aAh rfl) rfl (BVs.refl _ _) (f_1_h _ _  h7) rfl) ?_
  refine aG ?_
  refine cA rfl (fun c8 => ?_) (fun c8 => ?_)
  ·have h := aX c8 h
   refine aF ?_
   refine aC ?_
   refine tr1 rfl (aD (v := .d (.lit (.int .i64 t8_0_1))) (aA rfl) rfl rfl) ?_
   refine tr1 rfl (aH (v := .d (.lit (.int .i64 t8_0_1))) (aA rfl) rfl rfl) ?_
   refine aG ?_
   have h := Option.some.inj h
   subst h
   exact bU ⟨rfl, _, .one _, rfl, rfl⟩
  ·have h := aY c8 h
   refine dY ?_
   refine aC ?_
   refine tr1 rfl (bT (aA rfl) rfl rfl rfl) ?_
   refine tr1 rfl (aD (v := .d (.lit (.int .i64 ((w64 (t8_0_1 + 1)))))) (aA rfl) rfl rfl) ?_
   refine aG ?_
   exact ⟨(w64 (t8_0_1 + 1)), h, bE [] rfl rfl (aU rfl (bC ⟨rfl, rfl, rfl, trivial⟩))⟩
 ·have h := aY c3 h
  refine dA ?_
  refine .inl ⟨rfl, ?_⟩
  simp only [lF] at h
  refine aF ?_
  refine aC ?_
  refine tr1 rfl (aH (v := .d (.lit (.int .i64 (-1)))) (aA rfl) rfl rfl) ?_
  refine aG ?_
  have h := Option.some.inj h
  subst h
  exact bU ⟨rfl, _, .one _, rfl, rfl⟩

theorem sP (s_0 : List aK) (f_1 : aK → Option Bool) {r : Bool} (f_1_f : Nat) (f_1_v : List AV) (f_1_e : ∀ args w, (callFunc f_1_f args).run Try.prog w = .ok (.enter f_1_f args) w) (f_1_h : ∀ (x0 : aK) r, f_1 x0 = some r → Fn Try.prog f_1_f ([.agg (aS x0)] ++ f_1_v) (.d (.lit (.bool r)))) (h : gS s_0 f_1 = some r) : Fn Try.prog 103 [.d (.sl 5 (s_0.map aS)), .fn f_1_f f_1_v] (.d (.lit (.bool r))) := by
 unfold gS at h
 refine Fn.of_tr Try.func103 rfl (rs := [.tmp 4]) Try.results103 Try.ntmps103 (Nat.le_of_ble_eq_true rfl) ?_
 refine aF ?_
 refine aC ?_
 refine tr1 rfl (aH (v := .d (.lit (.bool false))) (aA rfl) rfl rfl) ?_
 refine aG ?_
 refine aF ?_
 refine aC ?_
 refine tr1 rfl (aD (v := .d (.sl 5 (s_0.map aS))) (aA rfl) rfl rfl) ?_
 refine tr1 rfl (aD (v := .fn f_1_f f_1_v) (aA rfl) rfl rfl) ?_
 obtain ⟨r1, h2, h⟩ := bind_some h
 refine tr1 rfl (cL (aA rfl) (.func _ _ Try.call121) rfl rfl (BVs.refl _ _) (uE _ _ f_1_f f_1_v f_1_e f_1_h h2) rfl) ?_
 refine tr1 rfl (bR (aA rfl) rfl rfl rfl) ?_
 refine tr1 rfl (aH (v := .d (.lit (.bool ((decide (0 ≤ r1)))))) (aA rfl) rfl rfl) ?_
 refine aG ?_
 have h := Option.some.inj h
 subst h
 exact bU ⟨rfl, _, .one _, rfl, rfl⟩

theorem tS (m_0 : aI) (t_1 : bD) {r : Bool} (h : lC m_0 t_1 = some r) : Fn Try.prog 107 [.agg (aT m_0), .agg (bG t_1)] (.d (.lit (.bool r))) := by
 unfold lC at h
 refine Fn.of_tr Try.func107 rfl (rs := [.tmp 4]) Try.results107 Try.ntmps107 (Nat.le_of_ble_eq_true rfl) ?_
 refine aF ?_
 refine aC ?_
 refine cE rfl (eC (v := .agg (aT m_0)) (aA rfl) rfl rfl rfl) ?_
 rintro _ ⟨b1, rfl⟩
 refine cE rfl (eC (v := .agg (bG t_1)) (aA rfl) rfl rfl rfl) ?_
 rintro _ ⟨b2, rfl⟩
 refine tr1 rfl (aH (v := .d (.lit (.bool false))) (aA rfl) rfl rfl) ?_
 refine aG ?_
 refine aF ?_
 obtain ⟨r3, h4, h⟩ := bind_some h
 obtain ⟨b5, h6, h⟩ := bind_some h
 refine eD mix 19 [] [(23, .d (.lit (.bool b5)))] ?_ ?_
 ·refine bY (r3) (fun c7 => ?_) (fun c7 => ?_)
  ·have h6 := aX c7 h6
   obtain ⟨u8, h9, h6⟩ := bind_some h6
   obtain ⟨r10, h11, h6⟩ := bind_some h6
   have h6 := Option.some.inj h6
   subst h6
   refine ⟨[(5, 0, .bp b1 0 0), (6, 1, .d (.lit (.int .i64 m_0.round))), (7, 2, .bp b2 0 0), (8, 3, .d (.lit (.int .i64 t_1.Rounds))), (9, 4, .d (.lit (.int .i64 ((w64 (t_1.Rounds - 1)))))), (10, 5, .d (.lit (.bool r3))), (11, 6, .d (.lit (.bool r3))), (12, 7, .bp b1 0 1), (13, 8, .d (.lit (.int .i64 m_0.place))), (14, 9, .bp b2 0 1), (15, 10, .d (.sl 1 (t_1.Slots.map aP))), (16, 11, .d (.lit (.int .i64 ((t_1.Slots.length : Int))))), (17, 12, .bp b1 0 0), (18, 13, .d (.lit (.int .i64 m_0.round))), (19, 14, .d (.lit (.int .i64 ((w64 (m_0.round + 1)))))), (20, 15, .d (.lit (.int .i64 (((t_1.Slots.length : Int).fdiv (2 ^ (min (w64 (m_0.round + 1)).toNat 64))))))), (21, 16, .d (.lit (.int .i64 ((w64 (((t_1.Slots.length : Int).fdiv (2 ^ (min (w64 (m_0.round + 1)).toNat 64))) - 1)))))), (22, 17, .d (.lit (.bool r10))), (23, 18, .d (.lit (.bool r10)))], ?_, ?_⟩
   · exact ⟨by kernel_rfl, by kernel_rfl, by kernel_rfl, by kernel_rfl, by kernel_rfl, [([], []), ([0], []), ([], []), ([2], []), ([3], []), ([1, 4], []), ([5], []), ([6], []), ([6, 7], []), ([6], []), ([6, 9], []), ([6, 10], []), ([6], []), ([6, 12], []), ([6, 13], []), ([6, 11, 14], []), ([6, 15], []), ([6, 8, 16], []), ([6, 17], [])], by kernel_rfl, ⟨fun S hS => aE rfl (aJ rfl (aN (aA rfl) (aB hS rfl) nK)),
      fun S hS => aE rfl (aJ rfl (aR (aA rfl) (aB hS rfl) (i := 0) rfl rfl bL)),
      fun S hS => aE rfl (aJ rfl (aN (aA rfl) (aB hS rfl) kL)),
      fun S hS => aE rfl (aJ rfl (aR (aA rfl) (aB hS rfl) (i := 1) rfl rfl bL)),
      fun S hS => aE rfl (aJ rfl (bT (aA rfl) (aB hS rfl) rfl rfl)),
      fun S hS => aE rfl (aJ rfl (cL (aA rfl) (.func _ _ Try.call120) (ev2 (aB hS rfl) (ev2 rfl (ev2 (aB hS rfl) evn))) rfl (BVs.refl _ _) (gB _ _ _ h4) rfl)),
      fun S hS => aE rfl (aJ rfl (aD (v := .d (.lit (.bool r3))) (aA rfl) (aB hS rfl) rfl)),
      fun S hS => aE rfl (bA rfl rfl (aA rfl) (aL hS rfl) c7 (aN (aA rfl) (aB hS rfl) aFv)),
      fun S hS => aE rfl (bA rfl rfl (aA rfl) (aL hS rfl) c7 (aR (aA rfl) (aB hS rfl) (i := 0) rfl rfl bL)),
      fun S hS => aE rfl (bA rfl rfl (aA rfl) (aL hS rfl) c7 (aN (aA rfl) (aB hS rfl) eT)),
      fun S hS => aE rfl (bA rfl rfl (aA rfl) (aL hS rfl) c7 (aR (aA rfl) (aB hS rfl) (i := 1) rfl rfl dF)),
      fun S hS => aE rfl (bA rfl rfl (aA rfl) (aL hS rfl) c7 (dC (aA rfl) (aB hS rfl) cT.of)),
      fun S hS => aE rfl (bA rfl rfl (aA rfl) (aL hS rfl) c7 (aN (aA rfl) (aB hS rfl) nK)),
      fun S hS => aE rfl (bA rfl rfl (aA rfl) (aL hS rfl) c7 (aR (aA rfl) (aB hS rfl) (i := 0) rfl rfl bL)),
      fun S hS => aE rfl (bA rfl rfl (aA rfl) (aL hS rfl) c7 (bT (aA rfl) (aB hS rfl) rfl rfl)),
      fun S hS => aE rfl (bA rfl rfl (aA rfl) (aL hS rfl) c7 (aBz (aA rfl) (aB hS rfl) (aB hS rfl) (rB h9))),
      fun S hS => aE rfl (bA rfl rfl (aA rfl) (aL hS rfl) c7 (bT (aA rfl) (aB hS rfl) rfl rfl)),
      fun S hS => aE rfl (bA rfl rfl (aA rfl) (aL hS rfl) c7 (cL (aA rfl) (.func _ _ Try.call120) (ev2 (aB hS rfl) (ev2 rfl (ev2 (aB hS rfl) evn))) rfl (BVs.refl _ _) (gB _ _ _ h11) rfl)),
      fun S hS => aE rfl (aJ rfl (cC (v := .d (.lit (.bool r10))) (aA rfl) (aB hS rfl) c7 (aB hS rfl) rfl)), trivial⟩⟩
   · exact dE (aU rfl (bC trivial))
  ·have h6 := aY c7 h6
   have h6 := Option.some.inj h6
   subst h6
   refine ⟨[(5, 0, .bp b1 0 0), (6, 1, .d (.lit (.int .i64 m_0.round))), (7, 2, .bp b2 0 0), (8, 3, .d (.lit (.int .i64 t_1.Rounds))), (9, 4, .d (.lit (.int .i64 ((w64 (t_1.Rounds - 1)))))), (10, 5, .d (.lit (.bool r3))), (11, 6, .d (.lit (.bool r3))), (12, 7, .tup []), (13, 8, .tup []), (14, 9, .tup []), (15, 10, .tup []), (16, 11, .tup []), (17, 12, .tup []), (18, 13, .tup []), (19, 14, .tup []), (20, 15, .tup []), (21, 16, .tup []), (22, 17, .tup []), (23, 18, .d (.lit (.bool false)))], ?_, ?_⟩
   · exact ⟨by kernel_rfl, by kernel_rfl, by kernel_rfl, by kernel_rfl, by kernel_rfl, [([], []), ([0], []), ([], []), ([2], []), ([3], []), ([1, 4], []), ([5], []), ([6], []), ([6, 7], []), ([6], []), ([6, 9], []), ([6, 10], []), ([6], []), ([6, 12], []), ([6, 13], []), ([6, 11, 14], []), ([6, 15], []), ([6, 8, 16], []), ([6, 17], [])], by kernel_rfl, ⟨fun S hS => aE rfl (aJ rfl (aN (aA rfl) (aB hS rfl) nK)),
      fun S hS => aE rfl (aJ rfl (aR (aA rfl) (aB hS rfl) (i := 0) rfl rfl bL)),
      fun S hS => aE rfl (aJ rfl (aN (aA rfl) (aB hS rfl) kL)),
      fun S hS => aE rfl (aJ rfl (aR (aA rfl) (aB hS rfl) (i := 1) rfl rfl bL)),
      fun S hS => aE rfl (aJ rfl (bT (aA rfl) (aB hS rfl) rfl rfl)),
      fun S hS => aE rfl (aJ rfl (cL (aA rfl) (.func _ _ Try.call120) (ev2 (aB hS rfl) (ev2 rfl (ev2 (aB hS rfl) evn))) rfl (BVs.refl _ _) (gB _ _ _ h4) rfl)),
      fun S hS => aE rfl (aJ rfl (aD (v := .d (.lit (.bool r3))) (aA rfl) (aB hS rfl) rfl)),
      fun S hS => aE rfl (aZ rfl rfl (aA rfl) rfl (aA rfl) (aL hS rfl) c7),
      fun S hS => aE rfl (aZ rfl rfl (aA rfl) rfl (aA rfl) (aL hS rfl) c7),
      fun S hS => aE rfl (aZ rfl rfl (aA rfl) rfl (aA rfl) (aL hS rfl) c7),
      fun S hS => aE rfl (aZ rfl rfl (aA rfl) rfl (aA rfl) (aL hS rfl) c7),
      fun S hS => aE rfl (aZ rfl rfl (aA rfl) rfl (aA rfl) (aL hS rfl) c7),
      fun S hS => aE rfl (aZ rfl rfl (aA rfl) rfl (aA rfl) (aL hS rfl) c7),
      fun S hS => aE rfl (aZ rfl rfl (aA rfl) rfl (aA rfl) (aL hS rfl) c7),
      fun S hS => aE rfl (aZ rfl rfl (aA rfl) rfl (aA rfl) (aL hS rfl) c7),
      fun S hS => aE rfl (aZ rfl rfl (aA rfl) rfl (aA rfl) (aL hS rfl) c7),
      fun S hS => aE rfl (aZ rfl rfl (aA rfl) rfl (aA rfl) (aL hS rfl) c7),
      fun S hS => aE rfl (aZ rfl rfl (aA rfl) rfl (aA rfl) (aL hS rfl) c7),
      fun S hS => aE rfl (aJ rfl (cB (v := .d (.lit (.bool false))) (aA rfl) (aB hS rfl) c7 rfl rfl)), trivial⟩⟩
   · exact dE (aU rfl (bC trivial))
 ·refine tr1 rfl (aH (v := .d (.lit (.bool b5))) (aA rfl) rfl rfl) ?_
  refine aG ?_
  have h := Option.some.inj h
  subst h
  refine cQ (cF (cN (l := [4]) ⟨rfl, trivial⟩)) ?_
  exact bU ⟨rfl, _, .one _, rfl, rfl⟩

theorem aCv (t_0 : bD) (s_1 : aK) {r : Bool} (h : oE t_0 s_1 = some r) : Fn Try.prog 105 [.agg (bG t_0), .agg (aS s_1)] (.d (.lit (.bool r))) := by
 unfold oE at h
 refine Fn.of_tr Try.func105 rfl (rs := [.tmp 4]) Try.results105 Try.ntmps105 (Nat.le_of_ble_eq_true rfl) ?_
 refine aF ?_
 refine aC ?_
 refine cE rfl (eC (v := .agg (bG t_0)) (aA rfl) rfl rfl rfl) ?_
 rintro _ ⟨b1, rfl⟩
 refine cE rfl (eC (v := .agg (aS s_1)) (aA rfl) rfl rfl rfl) ?_
 rintro _ ⟨b2, rfl⟩
 refine tr1 rfl (aH (v := .d (.lit (.bool false))) (aA rfl) rfl rfl) ?_
 refine aG ?_
 refine aF ?_
 refine aF ?_
 refine aC ?_
 refine tr1 rfl (aN (aA rfl) rfl mG) ?_
 refine tr1 rfl (aR (aA rfl) rfl (i := 1) rfl rfl bL) ?_
 obtain ⟨r3, h4, h⟩ := bind_some h
 refine tr1 rfl (cL (aA rfl) (.func _ _ Try.call120) rfl rfl (BVs.refl _ _) (gB _ _ _ h4) rfl) ?_
 refine tr1 rfl (dZ (aA rfl) rfl) ?_
 refine aG ?_
 refine cA rfl (fun c5 => ?_) (fun c5 => ?_)
 ·have h := aX c5 h
  refine aF ?_
  refine aC ?_
  refine tr1 rfl (aH (v := .d (.lit (.bool false))) (aA rfl) rfl rfl) ?_
  refine aG ?_
  have h := Option.some.inj h
  subst h
  refine cQ (cF (cN (l := [4]) ⟨rfl, trivial⟩)) ?_
  exact bU ⟨rfl, _, .one _, rfl, rfl⟩
 ·have h := aY c5 h
  refine bX ?_
  refine aF ?_
  refine aF ?_
  refine aC ?_
  refine tr1 rfl (aN (aA rfl) rfl nL) ?_
  refine tr1 rfl (aR (aA rfl) rfl (i := 1) rfl rfl bL) ?_
  refine tr1 rfl (bR (aA rfl) rfl rfl rfl) ?_
  refine aG ?_
  refine cA rfl (fun c6 => ?_) (fun c6 => ?_)
  ·have h := aX c6 h
   refine aF ?_
   refine aC ?_
   refine tr1 rfl (aN (aA rfl) rfl lO) ?_
   refine tr1 rfl (aR (aA rfl) rfl (i := 1) rfl rfl bL) ?_
   refine tr1 rfl (bR (aA rfl) rfl rfl rfl) ?_
   refine tr1 rfl (aD (v := .d (.lit (.bool ((decide (s_1.Round = 0)))))) (aA rfl) rfl rfl) ?_
   obtain ⟨b7, h8, h⟩ := bind_some h
   refine cS 8 [3] 24 b7 ?_ ?_
   ·refine bY (decide (s_1.Round = 0)) (fun c14 => ?_) (fun c14 => ?_)
    ·have h8 := aX c14 h8
     refine aM rfl rfl (aA rfl) rfl c14 (aN (aA rfl) rfl jA) ?_
     refine aM rfl rfl (aA rfl) rfl c14 (aR (aA rfl) rfl (i := 1) rfl rfl bL) ?_
     refine aM rfl rfl (aA rfl) rfl c14 (aN (aA rfl) rfl eT) ?_
     refine aM rfl rfl (aA rfl) rfl c14 (aR (aA rfl) rfl (i := 0) rfl rfl dF) ?_
     refine aM rfl rfl (aA rfl) rfl c14 (dC (aA rfl) rfl cT.of) ?_
     refine aM rfl rfl (aA rfl) rfl c14 (bT (aA rfl) rfl rfl rfl) ?_
     obtain ⟨r15, h16, h8⟩ := bind_some h8
     refine aM rfl rfl (aA rfl) rfl c14 (cL (aA rfl) (.func _ _ Try.call120) rfl rfl (BVs.refl _ _) (gB _ _ _ h16) rfl) ?_
     refine tr1 rfl (cC (v := .d (.lit (.bool r15))) (aA rfl) rfl c14 rfl rfl) ?_
     have h8 := Option.some.inj h8
     subst h8
     refine aG (bM rfl ⟨rfl, trivial⟩ rfl)
    ·have h8 := aY c14 h8
     refine aO rfl rfl (aA rfl) rfl (aA rfl) rfl c14 ?_
     refine aO rfl rfl (aA rfl) rfl (aA rfl) rfl c14 ?_
     refine aO rfl rfl (aA rfl) rfl (aA rfl) rfl c14 ?_
     refine aO rfl rfl (aA rfl) rfl (aA rfl) rfl c14 ?_
     refine aO rfl rfl (aA rfl) rfl (aA rfl) rfl c14 ?_
     refine aO rfl rfl (aA rfl) rfl (aA rfl) rfl c14 ?_
     refine aO rfl rfl (aA rfl) rfl (aA rfl) rfl c14 ?_
     refine tr1 rfl (cB (v := .d (.lit (.bool false))) (aA rfl) rfl c14 rfl rfl) ?_
     have h8 := Option.some.inj h8
     subst h8
     refine aG (bM rfl ⟨rfl, trivial⟩ rfl)
   ·refine tr1 rfl (aD (v := .d (.lit (.bool b7))) (aA rfl) rfl rfl) ?_
    obtain ⟨b9, h10, h⟩ := bind_some h
    refine cS 4 [] 29 b9 ?_ ?_
    ·refine bY (b7) (fun c11 => ?_) (fun c11 => ?_)
     ·have h10 := aX c11 h10
      refine aM rfl rfl (aA rfl) rfl c11 (aN (aA rfl) rfl rO) ?_
      refine aM rfl rfl (aA rfl) rfl c11 (aR (aA rfl) rfl (i := 1) rfl rfl bL) ?_
      obtain ⟨r12, h13, h10⟩ := bind_some h10
      refine aM rfl rfl (aA rfl) rfl c11 (cL (aA rfl) (.func _ _ Try.call120) rfl rfl (BVs.refl _ _) (gB _ _ _ h13) rfl) ?_
      refine tr1 rfl (cC (v := .d (.lit (.bool r12))) (aA rfl) rfl c11 rfl rfl) ?_
      have h10 := Option.some.inj h10
      subst h10
      refine aG (bM rfl trivial rfl)
     ·have h10 := aY c11 h10
      refine aO rfl rfl (aA rfl) rfl (aA rfl) rfl c11 ?_
      refine aO rfl rfl (aA rfl) rfl (aA rfl) rfl c11 ?_
      refine aO rfl rfl (aA rfl) rfl (aA rfl) rfl c11 ?_
      refine tr1 rfl (cB (v := .d (.lit (.bool false))) (aA rfl) rfl c11 rfl rfl) ?_
      have h10 := Option.some.inj h10
      subst h10
      refine aG (bM rfl trivial rfl)
    ·refine tr1 rfl (aH (v := .d (.lit (.bool b9))) (aA rfl) rfl rfl) ?_
     refine aG ?_
     have h := Option.some.inj h
     subst h
     refine cQ (cF (cN (l := [4]) ⟨rfl, trivial⟩)) ?_
     exact bU ⟨rfl, _, .one _, rfl, rfl⟩
  ·have h := aY c6 h
   refine bX ?_
   refine aF ?_
   refine aC ?_
   refine tr1 rfl (aN (aA rfl) rfl lO) ?_
   refine tr1 rfl (aR (aA rfl) rfl (i := 1) rfl rfl bL) ?_
   refine tr1 rfl (aN (aA rfl) rfl jA) ?_
   refine tr1 rfl (aR (aA rfl) rfl (i := 1) rfl rfl bL) ?_
   refine tr1 rfl (eA (aA rfl) uY (zs := [.lit (.int .i64 0), .lit (.int .i64 0)]) rfl rfl rfl rfl (es := [.lit (.int .i64 s_1.Round), .lit (.int .i64 s_1.Place)]) rfl) ?_
   refine cE rfl (dM (zs := [.lit (.int .i64 0), .lit (.int .i64 0)]) (aA rfl) Try.zeroValue112 rfl rfl) ?_
   rintro _ ⟨b17, rfl⟩
   refine tr1 rfl (cM (i := 2) rfl rfl rfl rfl rfl Try.sizeOf112 rfl (aA rfl) (Nat.le_of_ble_eq_true rfl) (ds' := (aT (aI.mk s_1.Round s_1.Place))) rfl) ?_
   refine aG ?_
   refine aF ?_
   refine aF ?_
   refine aC ?_
   refine tr1 rfl (aN (aA rfl) rfl nL) ?_
   refine tr1 rfl (aR (aA rfl) rfl (i := 1) rfl rfl bL) ?_
   obtain ⟨r18, h19, h⟩ := bind_some h
   refine tr1 rfl (cL (aA rfl) (.func _ _ Try.call120) rfl rfl (BVs.refl _ _) (gB _ _ _ h19) rfl) ?_
   refine tr1 rfl (dZ (aA rfl) rfl) ?_
   refine tr1 rfl (aD (v := .d (.lit (.bool (!r18)))) (aA rfl) rfl rfl) ?_
   obtain ⟨b20, h21, h⟩ := bind_some h
   refine cS 4 [2, 3, 5] 43 b20 ?_ ?_
   ·refine bY (!r18) (fun c35 => ?_) (fun c35 => ?_)
    ·have h21 := aX c35 h21
     refine aO rfl rfl (aA rfl) rfl (aA rfl) rfl c35 ?_
     refine aO rfl rfl (aA rfl) rfl (aA rfl) rfl c35 ?_
     refine aO rfl rfl (aA rfl) rfl (aA rfl) rfl c35 ?_
     refine tr1 rfl (cC (v := .d (.lit (.bool true))) (aA rfl) rfl c35 rfl rfl) ?_
     have h21 := Option.some.inj h21
     subst h21
     refine aG (bM rfl ⟨rfl, rfl, rfl, trivial⟩ rfl)
    ·have h21 := aY c35 h21
     refine aM rfl rfl (aA rfl) rfl c35 (aN (aA rfl) rfl rO) ?_
     refine aM rfl rfl (aA rfl) rfl c35 (aR (aA rfl) rfl (i := 1) rfl rfl bL) ?_
     refine aM rfl rfl (aA rfl) rfl c35 (bR (aA rfl) rfl rfl rfl) ?_
     refine tr1 rfl (cB (v := .d (.lit (.bool ((!decide (s_1.Old = 0)))))) (aA rfl) rfl c35 rfl rfl) ?_
     have h21 := Option.some.inj h21
     subst h21
     refine aG (bM rfl ⟨rfl, rfl, rfl, trivial⟩ rfl)
   ·refine tr1 rfl (aD (v := .d (.lit (.bool b20))) (aA rfl) rfl rfl) ?_
    obtain ⟨b22, h23, h⟩ := bind_some h
    refine cS 5 [2, 3] 49 b22 ?_ ?_
    ·refine bY (b20) (fun c32 => ?_) (fun c32 => ?_)
     ·have h23 := aX c32 h23
      refine aO rfl rfl (aA rfl) rfl (aA rfl) rfl c32 ?_
      refine aO rfl rfl (aA rfl) rfl (aA rfl) rfl c32 ?_
      refine aO rfl rfl (aA rfl) rfl (aA rfl) rfl c32 ?_
      refine aO rfl rfl (aA rfl) rfl (aA rfl) rfl c32 ?_
      refine tr1 rfl (cC (v := .d (.lit (.bool true))) (aA rfl) rfl c32 rfl rfl) ?_
      have h23 := Option.some.inj h23
      subst h23
      refine aG (bM rfl ⟨rfl, rfl, trivial⟩ rfl)
     ·have h23 := aY c32 h23
      refine aM rfl rfl (aA rfl) rfl c32 (bN (aA rfl) rfl (i := 2) rfl jZ (es := (aT (aI.mk s_1.Round s_1.Place))) rfl rfl) ?_
      refine aM rfl rfl (aA rfl) rfl c32 (bN (aA rfl) rfl (i := 0) rfl fO (es := (bG t_0)) rfl rfl) ?_
      obtain ⟨r33, h34, h23⟩ := bind_some h23
      refine aM rfl rfl (aA rfl) rfl c32 (cL (aA rfl) (.func _ _ Try.call107) rfl rfl (BVs.refl _ _) (tS _ _ h34) rfl) ?_
      refine aM rfl rfl (aA rfl) rfl c32 (dZ (aA rfl) rfl) ?_
      refine tr1 rfl (cB (v := .d (.lit (.bool (!r33)))) (aA rfl) rfl c32 rfl rfl) ?_
      have h23 := Option.some.inj h23
      subst h23
      refine aG (bM rfl ⟨rfl, rfl, trivial⟩ rfl)
    ·refine aG ?_
     refine cA rfl (fun c24 => ?_) (fun c24 => ?_)
     ·have h := aX c24 h
      refine aF ?_
      refine aC ?_
      refine tr1 rfl (aH (v := .d (.lit (.bool false))) (aA rfl) rfl rfl) ?_
      refine aG ?_
      have h := Option.some.inj h
      subst h
      refine cQ (cF (cN (l := [4]) ⟨rfl, trivial⟩)) ?_
      exact bU ⟨rfl, _, .one _, rfl, rfl⟩
     ·have h := aY c24 h
      refine bX ?_
      refine aF ?_
      refine aC ?_
      refine tr1 rfl (aN (aA rfl) rfl lO) ?_
      refine tr1 rfl (aR (aA rfl) rfl (i := 1) rfl rfl bL) ?_
      refine tr1 rfl (bR (aA rfl) rfl rfl rfl) ?_
      refine tr1 rfl (aD (v := .d (.lit (.bool ((decide (0 < s_1.Round)))))) (aA rfl) rfl rfl) ?_
      obtain ⟨b25, h26, h⟩ := bind_some h
      refine cS 13 [] 66 b25 ?_ ?_
      ·refine bY (decide (0 < s_1.Round)) (fun c27 => ?_) (fun c27 => ?_)
       ·have h26 := aX c27 h26
        refine aO rfl rfl (aA rfl) rfl (aA rfl) rfl c27 ?_
        refine aO rfl rfl (aA rfl) rfl (aA rfl) rfl c27 ?_
        refine aO rfl rfl (aA rfl) rfl (aA rfl) rfl c27 ?_
        refine aO rfl rfl (aA rfl) rfl (aA rfl) rfl c27 ?_
        refine aO rfl rfl (aA rfl) rfl (aA rfl) rfl c27 ?_
        refine aO rfl rfl (aA rfl) rfl (aA rfl) rfl c27 ?_
        refine aO rfl rfl (aA rfl) rfl (aA rfl) rfl c27 ?_
        refine aO rfl rfl (aA rfl) rfl (aA rfl) rfl c27 ?_
        refine aO rfl rfl (aA rfl) rfl (aA rfl) rfl c27 ?_
        refine aO rfl rfl (aA rfl) rfl (aA rfl) rfl c27 ?_
        refine aO rfl rfl (aA rfl) rfl (aA rfl) rfl c27 ?_
        refine aO rfl rfl (aA rfl) rfl (aA rfl) rfl c27 ?_
        refine tr1 rfl (cC (v := .d (.lit (.bool true))) (aA rfl) rfl c27 rfl rfl) ?_
        have h26 := Option.some.inj h26
        subst h26
        refine aG (bM rfl trivial rfl)
       ·have h26 := aY c27 h26
        refine aM rfl rfl (aA rfl) rfl c27 (aN (aA rfl) rfl eT) ?_
        refine aM rfl rfl (aA rfl) rfl c27 (aR (aA rfl) rfl (i := 0) rfl rfl dF) ?_
        refine aM rfl rfl (aA rfl) rfl c27 (aN (aA rfl) rfl jA) ?_
        refine aM rfl rfl (aA rfl) rfl c27 (aR (aA rfl) rfl (i := 1) rfl rfl bL) ?_
        refine aM rfl rfl (aA rfl) rfl c27 (bT (aA rfl) rfl rfl rfl) ?_
        refine aM rfl rfl (aA rfl) rfl c27 (aN (aA rfl) rfl jA) ?_
        refine aM rfl rfl (aA rfl) rfl c27 (aR (aA rfl) rfl (i := 1) rfl rfl bL) ?_
        refine aM rfl rfl (aA rfl) rfl c27 (bT (aA rfl) rfl rfl rfl) ?_
        refine aM rfl rfl (aA rfl) rfl c27 (bT (aA rfl) rfl rfl rfl) ?_
        obtain ⟨x28, h29, h26⟩ := bind_some h26
        refine aM rfl rfl (aA rfl) rfl c27 (aKs (aA rfl) cT.of rfl rfl rfl (aPd aP h29)) ?_
        obtain ⟨r30, h31, h26⟩ := bind_some h26
        refine aM rfl rfl (aA rfl) rfl c27 (cL (aA rfl) (.func _ _ Try.call63) rfl rfl (BVs.refl _ _) (fG _ _ h31) rfl) ?_
        refine aM rfl rfl (aA rfl) rfl c27 (dZ (aA rfl) rfl) ?_
        refine tr1 rfl (cB (v := .d (.lit (.bool (!r30)))) (aA rfl) rfl c27 rfl rfl) ?_
        have h26 := Option.some.inj h26
        subst h26
        refine aG (bM rfl trivial rfl)
      ·refine tr1 rfl (aH (v := .d (.lit (.bool b25))) (aA rfl) rfl rfl) ?_
       refine aG ?_
       have h := Option.some.inj h
       subst h
       refine cQ (cF (cN (l := [4]) ⟨rfl, trivial⟩)) ?_
       exact bU ⟨rfl, _, .one _, rfl, rfl⟩

theorem aCx (s_0 : aK) (c_1 : bD) {r : Bool} (h : mJ s_0 c_1 = some r) : Fn Try.prog 104 [.agg (aS s_0), .cp (bG c_1)] (.d (.lit (.bool r))) := by
 unfold mJ at h
 refine Fn.of_tr Try.func104 rfl (rs := [.tmp 3]) Try.results104 Try.ntmps104 (Nat.le_of_ble_eq_true rfl) ?_
 refine aF ?_
 refine aC ?_
 refine cE rfl (eC (v := .agg (aS s_0)) (aA rfl) rfl rfl rfl) ?_
 rintro _ ⟨b1, rfl⟩
 refine tr1 rfl (aH (v := .d (.lit (.bool false))) (aA rfl) rfl rfl) ?_
 refine aG ?_
 refine aF ?_
 refine aC ?_
 refine tr1 rfl (dB (aA rfl) rfl fO (es := (bG c_1)) rfl rfl) ?_
 refine tr1 rfl (bN (aA rfl) rfl (i := 0) rfl jM (es := (aS s_0)) rfl rfl) ?_
 obtain ⟨r2, h3, h⟩ := bind_some h
 refine tr1 rfl (cL (aA rfl) (.func _ _ Try.call105) rfl rfl (BVs.refl _ _) (aCv _ _ h3) rfl) ?_
 refine tr1 rfl (dZ (aA rfl) rfl) ?_
 refine tr1 rfl (aH (v := .d (.lit (.bool (!r2)))) (aA rfl) rfl rfl) ?_
 refine aG ?_
 have h := Option.some.inj h
 subst h
 refine cQ (cF (cN (l := [3]) ⟨rfl, trivial⟩)) ?_
 exact bU ⟨rfl, _, .one _, rfl, rfl⟩

theorem sY (s_0 : List Int) {r : (List Int)} (h : lD s_0 = some r) : gF Try.prog 122 [.d (.sl 1 (s_0.map aP))] [] (fun r' o' => ∃ (w0 : Value), r' = .d (.lit w0) ∧ o' = [.arr w0 3 1 (r.map aP)]) := by
 unfold lD at h
 refine lH Try.func122 rfl (rs := [.tmp 2]) Try.results122 Try.ntmps122 (Nat.le_of_ble_eq_true rfl) ?_
 refine aF ?_
 refine aC ?_
 refine tr1 rfl (gA 3 1 (.inl rfl) (aA rfl)) ?_
 refine aG ?_
 refine aF ?_
 refine aF ?_
 refine aC ?_
 refine tr1 rfl (aD (v := .d (.sl 1 (s_0.map aP))) (aA rfl) rfl rfl) ?_
 refine cE rfl (aKq (aA rfl) rfl rfl Try.underlying27) ?_
 rintro _ ⟨b2, h3, rfl⟩
 refine aG ?_
 refine cA rfl (fun c4 => ?_) (fun c4 => ?_)
 ·obtain rfl := aKk (h3 c4)
  simp [app] at h
  subst h
  refine aF ?_
  refine aC ?_
  refine tr1 rfl (gA 3 1 (.inl rfl) (aA rfl)) ?_
  refine aG ?_
  refine cQ (bE [1, 0] rfl rfl (le_refl _)) ?_
  exact bU ⟨rfl, _, [.arr (.slice none 0 0) 3 1 (([] : List Int).map aP)], [.arr (.slice none 0 0) 3 1 (([] : List Int).map aP)], _, .one (.tmp 2 (v := .d (.lit (.slice none 0 0))) rfl), .refl _, .same _, (.slice none 0 0), rfl, rfl⟩
 ·refine bX ?_
  refine aF ?_
  refine aC ?_
  refine cE rfl (aGg (aA rfl) cT rfl rfl (rows := (([] : List Int)).map aP) rfl (dD (f := aP) fun _ => rfl) rfl (by decide)) ?_
  rintro _ ⟨v5, rfl⟩
  refine tr1 rfl (aD (v := .d (.sl 1 (s_0.map aP))) (aA rfl) rfl rfl) ?_
  obtain ⟨x6, h7, h⟩ := bind_some h
  refine cE rfl (fC (i := 1) (aA rfl) cT rfl rfl rfl (fun _ => rfl) h7 rfl) ?_
  rintro _ ⟨v8, rfl⟩
  refine tr1 rfl (aH (v := .d (.lit v8)) (aA rfl) rfl rfl) ?_
  refine aG ?_
  have h := Option.some.inj h
  subst h
  refine cQ (bE [1, 0] rfl rfl (le_refl _)) ?_
  exact bU ⟨rfl, _, [.arr v8 3 1 (x6.map aP)], [.arr (.slice none 0 0) 3 1 (([] : List Int).map aP)], _, .one (.tmp 2 (v := .d (.lit v8)) rfl), .refl _, .same _, v8, rfl, rfl⟩

theorem sS (d_0_Tree : bD) (d_0_players : List Int) (lucky_1 : List (aK × Int)) (slot_2 : Int) {Q : (aK × Bool) → Prop} {d_0_b d_0_o : Nat} {d_0_players_v : Value} {d_0_won_r : Nat} {lucky_1_r : Nat} {lucky_1_bs : List Nat} {lucky_1_ck : Nat} (h : iI d_0_Tree d_0_players lucky_1 slot_2 Q) : gF Try.prog 131 [.bp d_0_b d_0_o 0, .d (.lit (.map (some lucky_1_r))), .d (.lit (.int .i64 slot_2))] [.box d_0_b d_0_o [.lit (.int .i64 d_0_Tree.Rounds), .sl 1 (d_0_Tree.Slots.map aP), .lit d_0_players_v, .lit (.map (some d_0_won_r))], .arr d_0_players_v 3 1 (d_0_players.map aP), .map lucky_1_r (lucky_1.map fun p : aK × Int => ((fun a : aK => Value.agg ((aS a).map cH).toArray) p.1, (fun v : Int => AV.d (.lit (.int .i64 v))) p.2)) lucky_1_bs lucky_1_ck] (fun r' o' => ∃ (r : aK × Bool), Q r ∧ r' = .tup [.agg (aS r.1), .d (.lit (.bool r.2))] ∧ o' = [.box d_0_b d_0_o [.lit (.int .i64 d_0_Tree.Rounds), .sl 1 (d_0_Tree.Slots.map aP), .lit d_0_players_v, .lit (.map (some d_0_won_r))], .arr d_0_players_v 3 1 (d_0_players.map aP), .map lucky_1_r (lucky_1.map fun p : aK × Int => ((fun a : aK => Value.agg ((aS a).map cH).toArray) p.1, (fun v : Int => AV.d (.lit (.int .i64 v))) p.2)) lucky_1_bs lucky_1_ck]) := by
 unfold iI at h
 refine lH Try.func131 rfl (rs := [.cell 6 141, .tmp 7]) Try.results131 Try.ntmps131 (Nat.le_of_ble_eq_true rfl) ?_
 refine aF ?_
 refine aC ?_
 refine cE rfl (dM (zs := [.lit (.int .i64 0), .lit (.int .i64 0), .lit (.int .i64 0), .lit (.int .i64 0), .lit (.int .i64 0)]) (aA rfl) Try.zeroValue141 rfl rfl) ?_
 rintro _ ⟨b1, rfl⟩
 refine tr1 rfl (aH (v := .d (.lit (.bool false))) (aA rfl) rfl rfl) ?_
 refine aG ?_
 refine aF ?_
 refine aF ?_
 refine aC ?_
 refine tr1 rfl (aD (v := .d (.lit (.map (some lucky_1_r)))) (aA rfl) rfl rfl) ?_
 refine cE rfl (aJo (m := 2) (aA rfl) Try.underlying175 rfl rfl) ?_
 rintro _ ⟨q2, h4, rfl⟩
 have h := aAw h h4
 refine aG ?_
 refine cO ?_
 refine tH [0, 2, 6, 10] (fun (s5 : aK × (List Nat)) => []) (fun (s5 : aK × (List Nat)) => [.arr d_0_players_v 3 1 (d_0_players.map aP), .box d_0_b d_0_o [.lit (.int .i64 d_0_Tree.Rounds), .sl 1 (d_0_Tree.Slots.map aP), .lit d_0_players_v, .lit (.map (some d_0_won_r))], .map lucky_1_r (lucky_1.map fun p : aK × Int => ((fun a : aK => Value.agg ((aS a).map cH).toArray) p.1, (fun v : Int => AV.d (.lit (.int .i64 v))) p.2)) lucky_1_bs lucky_1_ck, .box b1 0 (aS s5.1), .iter q2 lucky_1_r lucky_1_ck s5.2 lucky_1_ck]) (fun (k : Nat) (s5 : aK × (List Nat)) => iA Q slot_2 d_0_players d_0_Tree lucky_1 k s5.1 (lV lucky_1 lucky_1_bs s5.2)) (fun _ h => h) ((aK.mk 0 0 0 0 0), []) h (bE [1, 0, 2, 3, 4] rfl rfl (bC ⟨rfl, rfl, rfl, rfl, trivial⟩)) ?_
 rintro k7 ⟨o6_0_5, seen6⟩ h
 simp only [iA] at h
 refine aF ?_
 refine aC ?_
 refine cE rfl (aMg (kv := (fun a : aK => Value.agg ((aS a).map cH).toArray)) (av := (fun v : Int => AV.d (.lit (.int .i64 v)))) (l := lucky_1) (mi := 4) (mm := 2) (aA rfl) rfl rfl rfl) ?_
 rintro _ (⟨h12, rfl⟩ | ⟨j9, b10, p8, h11, rfl⟩)
 ·have h := h.1 h12
  refine tr1 rfl (cD (aA rfl) rfl rfl) ?_
  refine aG ?_
  refine aF ?_
  refine cA rfl (fun c13 => ?_) (fun c13 => ?_)
  ·exact absurd c13 (by decide)
  ·refine dA ?_
   refine .inl ⟨rfl, ?_⟩
   simp only [mE] at h
   refine aF ?_
   refine aC ?_
   refine tr1 rfl (eA (aA rfl) aPb (zs := [.lit (.int .i64 0), .lit (.int .i64 0), .lit (.int .i64 0), .lit (.int .i64 0), .lit (.int .i64 0)]) rfl rfl rfl rfl (es := [.lit (.int .i64 0), .lit (.int .i64 0), .lit (.int .i64 0), .lit (.int .i64 0), .lit (.int .i64 0)]) rfl) ?_
   refine tr1 rfl (cM (i := 3) rfl rfl rfl rfl rfl Try.sizeOf141 rfl (aA rfl) (Nat.le_of_ble_eq_true rfl) (ds' := (aS (aK.mk 0 0 0 0 0))) rfl) ?_
   refine tr1 rfl (aH (v := .d (.lit (.bool false))) (aA rfl) rfl rfl) ?_
   refine aG ?_
   refine cQ (bE [1, 0, 2, 3, 4] rfl rfl (le_refl _)) ?_
   exact bU ⟨rfl, _, [.box d_0_b d_0_o [.lit (.int .i64 d_0_Tree.Rounds), .sl 1 (d_0_Tree.Slots.map aP), .lit d_0_players_v, .lit (.map (some d_0_won_r))], .arr d_0_players_v 3 1 (d_0_players.map aP), .map lucky_1_r (lucky_1.map fun p : aK × Int => ((fun a : aK => Value.agg ((aS a).map cH).toArray) p.1, (fun v : Int => AV.d (.lit (.int .i64 v))) p.2)) lucky_1_bs lucky_1_ck], [.box b1 0 (aS (aK.mk 0 0 0 0 0)), .iter q2 lucky_1_r lucky_1_ck seen6 lucky_1_ck], _, .two (.cell 6 141 rfl (i := 3) rfl jM (es := (aS (aK.mk 0 0 0 0 0))) rfl rfl) (.tmp 7 (v := .d (.lit (.bool false))) rfl), .refl _, .same _, ((aK.mk 0 0 0 0 0), false), h, rfl, rfl⟩
 ·have h := aCj h h11
  refine tr1 rfl (cD (aA rfl) rfl rfl) ?_
  refine aG ?_
  refine aF ?_
  refine cA rfl (fun c21 => ?_) (fun c21 => ?_)
  ·refine bX ?_
   refine cO ?_
   refine aF ?_
   refine aC ?_
   refine tr1 rfl (aJm (kv := (fun a : aK => Value.agg ((aS a).map cH).toArray)) (av := (fun v : Int => AV.d (.lit (.int .i64 v)))) (l := lucky_1) (mi := 4) (mm := 2) (ka := .agg (aS p8.1)) (aA rfl) rfl rfl rfl h11 (fun _ _ => .agg (aAr rfl))) ?_
   refine tr1 rfl (cD (aA rfl) rfl rfl) ?_
   refine cE rfl (dM (zs := [.lit (.int .i64 0), .lit (.int .i64 0), .lit (.int .i64 0), .lit (.int .i64 0), .lit (.int .i64 0)]) (aA rfl) Try.zeroValue141 rfl rfl) ?_
   rintro _ ⟨b14, rfl⟩
   refine tr1 rfl (cM (i := 5) rfl rfl rfl rfl rfl Try.sizeOf141 rfl (aA rfl) (Nat.le_of_ble_eq_true rfl) (ds' := (aS p8.1)) rfl) ?_
   refine aG ?_
   refine aF ?_
   obtain ⟨b15, h16, h⟩ := jF h
   refine eD mix 16 [0, 2, 6, 8, 10] [(30, .d (.lit (.bool b15)))] ?_ ?_
   ·refine bY (decide (p8.1.Place = slot_2)) (fun c17 => ?_) (fun c17 => ?_)
    ·have h16 := aX c17 h16
     obtain ⟨x18, h19, h16⟩ := bind_some h16
     have h16 := Option.some.inj h16
     subst h16
     refine ⟨[(15, 0, .bp b14 0 2), (16, 1, .d (.lit (.int .i64 p8.1.Place))), (17, 2, .d (.lit (.int .i64 slot_2))), (18, 3, .d (.lit (.bool ((decide (p8.1.Place = slot_2)))))), (19, 4, .d (.lit (.bool ((decide (p8.1.Place = slot_2)))))), (20, 5, .bp b14 0 4), (21, 6, .d (.lit (.int .i64 p8.1.Old))), (22, 7, .bp d_0_b d_0_o 0), (23, 8, .bp d_0_b d_0_o 0), (24, 9, .bp d_0_b d_0_o 2), (25, 10, .d (.lit d_0_players_v)), (26, 11, .d (.lit (.int .i64 slot_2))), (27, 12, .ep d_0_players_v 1 slot_2.toNat 0), (28, 13, .d (.lit (.int .i64 x18))), (29, 14, .d (.lit (.bool ((decide (p8.1.Old = x18)))))), (30, 15, .d (.lit (.bool ((decide (p8.1.Old = x18))))))], ?_, ?_⟩
     · exact ⟨by kernel_rfl, by kernel_rfl, by kernel_rfl, by kernel_rfl, by kernel_rfl, [([], []), ([0], []), ([], []), ([1, 2], []), ([3], []), ([4], []), ([4, 5], []), ([4], []), ([4, 7], []), ([4, 8], []), ([4, 9], []), ([4], []), ([4, 10, 11], []), ([4, 12], []), ([4, 6, 13], []), ([4, 14], [])], by kernel_rfl, ⟨fun S hS => aE rfl (aJ rfl (aN (aA rfl) (aB hS rfl) jA)),
      fun S hS => aE rfl (aJ rfl (aR (aA rfl) (aB hS rfl) (i := 5) rfl rfl bL)),
      fun S hS => aE rfl (aJ rfl (aD (v := .d (.lit (.int .i64 slot_2))) (aA rfl) (aB hS rfl) rfl)),
      fun S hS => aE rfl (aJ rfl (bR (aA rfl) (aB hS rfl) (aB hS rfl) rfl)),
      fun S hS => aE rfl (aJ rfl (aD (v := .d (.lit (.bool ((decide (p8.1.Place = slot_2)))))) (aA rfl) (aB hS rfl) rfl)),
      fun S hS => aE rfl (bA rfl rfl (aA rfl) (aL hS rfl) c17 (aN (aA rfl) (aB hS rfl) rO)),
      fun S hS => aE rfl (bA rfl rfl (aA rfl) (aL hS rfl) c17 (aR (aA rfl) (aB hS rfl) (i := 5) rfl rfl bL)),
      fun S hS => aE rfl (bA rfl rfl (aA rfl) (aL hS rfl) c17 (aD (v := .bp d_0_b d_0_o 0) (aA rfl) (aB hS rfl) rfl)),
      fun S hS => aE rfl (bA rfl rfl (aA rfl) (aL hS rfl) c17 (iR (aA rfl) (aB hS rfl))),
      fun S hS => aE rfl (bA rfl rfl (aA rfl) (aL hS rfl) c17 (aN (aA rfl) (aB hS rfl) oN)),
      fun S hS => aE rfl (bA rfl rfl (aA rfl) (aL hS rfl) c17 (aR (aA rfl) (aB hS rfl) (i := 1) rfl rfl dF)),
      fun S hS => aE rfl (bA rfl rfl (aA rfl) (aL hS rfl) c17 (aD (v := .d (.lit (.int .i64 slot_2))) (aA rfl) (aB hS rfl) rfl)),
      fun S hS => aE rfl (bA rfl rfl (aA rfl) (aL hS rfl) c17 (eG (m := 0) (aA rfl) (aB hS rfl) rfl (aB hS rfl) cT.of (bP aP h19))),
      fun S hS => aE rfl (bA rfl rfl (aA rfl) (aL hS rfl) c17 (iK (aA rfl) (aB hS rfl) (m := 0) rfl (jU aP h19) rfl bL)),
      fun S hS => aE rfl (bA rfl rfl (aA rfl) (aL hS rfl) c17 (bR (aA rfl) (aB hS rfl) (aB hS rfl) rfl)),
      fun S hS => aE rfl (aJ rfl (cC (v := .d (.lit (.bool ((decide (p8.1.Old = x18)))))) (aA rfl) (aB hS rfl) c17 (aB hS rfl) rfl)), trivial⟩⟩
     · exact dE (aU rfl (bC ⟨rfl, rfl, rfl, rfl, rfl, trivial⟩))
    ·have h16 := aY c17 h16
     have h16 := Option.some.inj h16
     subst h16
     refine ⟨[(15, 0, .bp b14 0 2), (16, 1, .d (.lit (.int .i64 p8.1.Place))), (17, 2, .d (.lit (.int .i64 slot_2))), (18, 3, .d (.lit (.bool ((decide (p8.1.Place = slot_2)))))), (19, 4, .d (.lit (.bool ((decide (p8.1.Place = slot_2)))))), (20, 5, .tup []), (21, 6, .tup []), (22, 7, .tup []), (23, 8, .tup []), (24, 9, .tup []), (25, 10, .tup []), (26, 11, .tup []), (27, 12, .tup []), (28, 13, .tup []), (29, 14, .tup []), (30, 15, .d (.lit (.bool false)))], ?_, ?_⟩
     · exact ⟨by kernel_rfl, by kernel_rfl, by kernel_rfl, by kernel_rfl, by kernel_rfl, [([], []), ([0], []), ([], []), ([1, 2], []), ([3], []), ([4], []), ([4, 5], []), ([4], []), ([4, 7], []), ([4, 8], []), ([4, 9], []), ([4], []), ([4, 10, 11], []), ([4, 12], []), ([4, 6, 13], []), ([4, 14], [])], by kernel_rfl, ⟨fun S hS => aE rfl (aJ rfl (aN (aA rfl) (aB hS rfl) jA)),
      fun S hS => aE rfl (aJ rfl (aR (aA rfl) (aB hS rfl) (i := 5) rfl rfl bL)),
      fun S hS => aE rfl (aJ rfl (aD (v := .d (.lit (.int .i64 slot_2))) (aA rfl) (aB hS rfl) rfl)),
      fun S hS => aE rfl (aJ rfl (bR (aA rfl) (aB hS rfl) (aB hS rfl) rfl)),
      fun S hS => aE rfl (aJ rfl (aD (v := .d (.lit (.bool ((decide (p8.1.Place = slot_2)))))) (aA rfl) (aB hS rfl) rfl)),
      fun S hS => aE rfl (aZ rfl rfl (aA rfl) rfl (aA rfl) (aL hS rfl) c17),
      fun S hS => aE rfl (aZ rfl rfl (aA rfl) rfl (aA rfl) (aL hS rfl) c17),
      fun S hS => aE rfl (aZ rfl rfl (aA rfl) rfl (aA rfl) (aL hS rfl) c17),
      fun S hS => aE rfl (aZ rfl rfl (aA rfl) rfl (aA rfl) (aL hS rfl) c17),
      fun S hS => aE rfl (aZ rfl rfl (aA rfl) rfl (aA rfl) (aL hS rfl) c17),
      fun S hS => aE rfl (aZ rfl rfl (aA rfl) rfl (aA rfl) (aL hS rfl) c17),
      fun S hS => aE rfl (aZ rfl rfl (aA rfl) rfl (aA rfl) (aL hS rfl) c17),
      fun S hS => aE rfl (aZ rfl rfl (aA rfl) rfl (aA rfl) (aL hS rfl) c17),
      fun S hS => aE rfl (aZ rfl rfl (aA rfl) rfl (aA rfl) (aL hS rfl) c17),
      fun S hS => aE rfl (aZ rfl rfl (aA rfl) rfl (aA rfl) (aL hS rfl) c17),
      fun S hS => aE rfl (aJ rfl (cB (v := .d (.lit (.bool false))) (aA rfl) (aB hS rfl) c17 rfl rfl)), trivial⟩⟩
     · exact dE (aU rfl (bC ⟨rfl, rfl, rfl, rfl, rfl, trivial⟩))
   ·refine aG ?_
    refine cA rfl (fun c20 => ?_) (fun c20 => ?_)
    ·have h := jE c20 h
     refine aF ?_
     refine aC ?_
     refine tr1 rfl (bN (aA rfl) rfl (i := 5) rfl jM (es := (aS p8.1)) rfl rfl) ?_
     refine tr1 rfl (cM (i := 3) rfl rfl rfl rfl rfl Try.sizeOf141 rfl (aA rfl) (Nat.le_of_ble_eq_true rfl) (ds' := (aS p8.1)) rfl) ?_
     refine tr1 rfl (aH (v := .d (.lit (.bool true))) (aA rfl) rfl rfl) ?_
     refine aG ?_
     refine cQ (bE [1, 0, 2, 3, 4, 5] rfl rfl (le_refl _)) ?_
     exact bU ⟨rfl, _, [.box d_0_b d_0_o [.lit (.int .i64 d_0_Tree.Rounds), .sl 1 (d_0_Tree.Slots.map aP), .lit d_0_players_v, .lit (.map (some d_0_won_r))], .arr d_0_players_v 3 1 (d_0_players.map aP), .map lucky_1_r (lucky_1.map fun p : aK × Int => ((fun a : aK => Value.agg ((aS a).map cH).toArray) p.1, (fun v : Int => AV.d (.lit (.int .i64 v))) p.2)) lucky_1_bs lucky_1_ck], [.box b1 0 (aS p8.1), .iter q2 lucky_1_r lucky_1_ck (seen6 ++ [b10]) lucky_1_ck, .box b14 0 (aS p8.1)], _, .two (.cell 6 141 rfl (i := 3) rfl jM (es := (aS p8.1)) rfl rfl) (.tmp 7 (v := .d (.lit (.bool true))) rfl), .refl _, .same _, (p8.1, true), h, rfl, rfl⟩
    ·have h := jD c20 h
     refine dY ?_
     exact ⟨(o6_0_5, (seen6 ++ [b10])), h, bE [0, 1, 2, 3, 4] rfl rfl (bC ⟨rfl, rfl, rfl, rfl, trivial⟩)⟩
  ·exact absurd c21 (by decide)

theorem wV (d_0_Tree : bD) (d_0_players : List Int) (lucky_1 : List (aK × Int)) {Q : (Bool × (List Int) × (List (aK × Int))) → Prop} {d_0_b d_0_o : Nat} {d_0_players_v : Value} {d_0_won_r : Nat} {lucky_1_r : Nat} {lucky_1_bs : List Nat} {lucky_1_ck : Nat} (h : kK d_0_Tree d_0_players lucky_1 Q) : gF Try.prog 123 [.bp d_0_b d_0_o 0, .d (.lit (.map (some lucky_1_r)))] [.box d_0_b d_0_o [.lit (.int .i64 d_0_Tree.Rounds), .sl 1 (d_0_Tree.Slots.map aP), .lit d_0_players_v, .lit (.map (some d_0_won_r))], .arr d_0_players_v 3 1 (d_0_players.map aP), .map lucky_1_r (lucky_1.map fun p : aK × Int => ((fun a : aK => Value.agg ((aS a).map cH).toArray) p.1, (fun v : Int => AV.d (.lit (.int .i64 v))) p.2)) lucky_1_bs lucky_1_ck] (fun r' o' => ∃ (r : Bool × (List Int) × (List (aK × Int))) (bs3 : List Nat) (ck3 : Nat), Q r ∧ r' = .d (.lit (.bool r.1)) ∧ o' = [.box d_0_b d_0_o [.lit (.int .i64 d_0_Tree.Rounds), .sl 1 (d_0_Tree.Slots.map aP), .lit d_0_players_v, .lit (.map (some d_0_won_r))], .arr d_0_players_v 3 1 (r.2.1.map aP), .map lucky_1_r (r.2.2.map fun p : aK × Int => ((fun a : aK => Value.agg ((aS a).map cH).toArray) p.1, (fun v : Int => AV.d (.lit (.int .i64 v))) p.2)) bs3 ck3]) := by
 unfold kK at h
 refine lH Try.func123 rfl (rs := [.tmp 4]) Try.results123 Try.ntmps123 (Nat.le_of_ble_eq_true rfl) ?_
 refine aF ?_
 refine aC ?_
 refine tr1 rfl (aH (v := .d (.lit (.bool false))) (aA rfl) rfl rfl) ?_
 refine aG ?_
 refine aF ?_
 refine aC ?_
 refine tr1 rfl (aD (v := .bp d_0_b d_0_o 0) (aA rfl) rfl rfl) ?_
 refine tr1 rfl (iR (aA rfl) rfl) ?_
 refine tr1 rfl (aN (aA rfl) rfl aAi) ?_
 refine tr1 rfl (aN (aA rfl) rfl eT) ?_
 refine tr1 rfl (aR (aA rfl) rfl (i := 0) rfl rfl dF) ?_
 obtain ⟨r1, h2, h⟩ := jF h
 refine cE rfl (aEp (aA rfl) (.func _ _ Try.call122) rfl rfl (sY _ h2)) ?_
 rintro _ ⟨v3, rfl⟩
 refine tr1 rfl (aH (v := .d (.lit v3)) (aA rfl) rfl rfl) ?_
 refine aG ?_
 refine aF ?_
 refine aF ?_
 refine aC ?_
 refine tr1 rfl (aD (v := .bp d_0_b d_0_o 0) (aA rfl) rfl rfl) ?_
 refine tr1 rfl (iR (aA rfl) rfl) ?_
 refine tr1 rfl (aN (aA rfl) rfl oN) ?_
 refine tr1 rfl (aR (aA rfl) rfl (i := 0) rfl rfl dF) ?_
 refine tr1 rfl (kN (m := 1) (aA rfl) rfl rfl cT.of) ?_
 refine tr1 rfl (aD (v := .d (.lit (.int .i64 0))) (aA rfl) rfl rfl) ?_
 refine aG ?_
 refine cO ?_
 refine tH [0, 1, 19] (fun (s4 : Int × (List Int) × (List (aK × Int)) × (List Int) × (List Nat) × Nat × Value) => [(5, .d (.lit s4.2.2.2.2.2.2)), (20, .d (.lit (.int .i64 s4.1)))]) (fun (s4 : Int × (List Int) × (List (aK × Int)) × (List Int) × (List Nat) × Nat × Value) => [.arr d_0_players_v 3 1 (s4.2.1.map aP), .box d_0_b d_0_o [.lit (.int .i64 d_0_Tree.Rounds), .sl 1 (d_0_Tree.Slots.map aP), .lit d_0_players_v, .lit (.map (some d_0_won_r))], .map lucky_1_r (s4.2.2.1.map fun p : aK × Int => ((fun a : aK => Value.agg ((aS a).map cH).toArray) p.1, (fun v : Int => AV.d (.lit (.int .i64 v))) p.2)) s4.2.2.2.2.1 s4.2.2.2.2.2.1, .arr s4.2.2.2.2.2.2 3 1 (s4.2.2.2.1.map aP)]) (fun (k : Nat) (s4 : Int × (List Int) × (List (aK × Int)) × (List Int) × (List Nat) × Nat × Value) => dT Q (d_0_players.length : Int) d_0_Tree k s4.1 s4.2.1 s4.2.2.1 s4.2.2.2.1) (fun _ h => h) (0, d_0_players, lucky_1, r1, lucky_1_bs, lucky_1_ck, v3) h (bE [1, 0, 2, 3] rfl rfl (aU rfl (aU rfl (bC ⟨rfl, rfl, rfl, trivial⟩)))) ?_
 rintro k8 ⟨t20_0_4, d_0_4, lucky_0_4, o14_0_4, bs5, ck6, w7⟩ h
 simp only [dT] at h
 refine aF ?_
 refine aC ?_
 refine tr1 rfl (bR (aA rfl) rfl rfl rfl) ?_
 refine aG ?_
 refine aF ?_
 refine cA rfl (fun c9 => ?_) (fun c9 => ?_)
 ·have h := jE c9 h
  refine bX ?_
  refine aF ?_
  refine cO ?_
  refine aF ?_
  refine aC ?_
  refine tr1 rfl (aD (v := .d (.lit (.int .i64 t20_0_4))) (aA rfl) rfl rfl) ?_
  refine tr1 rfl (aH (v := .d (.lit (.int .i64 t20_0_4))) (aA rfl) rfl rfl) ?_
  refine aG ?_
  refine aF ?_
  refine aC ?_
  refine tr1 rfl (aD (v := .bp d_0_b d_0_o 0) (aA rfl) rfl rfl) ?_
  refine tr1 rfl (aD (v := .d (.lit (.map (some lucky_1_r)))) (aA rfl) rfl rfl) ?_
  refine tr1 rfl (aD (v := .d (.lit (.int .i64 t20_0_4))) (aA rfl) rfl rfl) ?_
  refine kH (bE [1, 0, 2, 3] rfl rfl (le_refl _)) ?_
  refine cE rfl (nF (passed := [.box d_0_b d_0_o [.lit (.int .i64 d_0_Tree.Rounds), .sl 1 (d_0_Tree.Slots.map aP), .lit d_0_players_v, .lit (.map (some d_0_won_r))], .arr d_0_players_v 3 1 (d_0_4.map aP), .map lucky_1_r (lucky_0_4.map fun p : aK × Int => ((fun a : aK => Value.agg ((aS a).map cH).toArray) p.1, (fun v : Int => AV.d (.lit (.int .i64 v))) p.2)) bs5 ck6]) (aA rfl) rfl (.func _ _ Try.call131) rfl rfl (sS d_0_Tree d_0_4 lucky_0_4 t20_0_4 h)) ?_
  rintro _ ⟨_, _, ⟨r10, h, rfl, rfl⟩, rfl⟩
  refine tr1 rfl (aD (v := .tup [.agg (aS r10.1), .d (.lit (.bool r10.2))]) (aA rfl) rfl rfl) ?_
  refine tr1 rfl (cD (aA rfl) rfl rfl) ?_
  refine tr1 rfl (cD (aA rfl) rfl rfl) ?_
  refine cE rfl (dM (zs := [.lit (.int .i64 0), .lit (.int .i64 0), .lit (.int .i64 0), .lit (.int .i64 0), .lit (.int .i64 0)]) (aA rfl) Try.zeroValue141 rfl rfl) ?_
  rintro _ ⟨b11, rfl⟩
  refine tr1 rfl (cM (i := 4) rfl rfl rfl rfl rfl Try.sizeOf141 rfl (aA rfl) (Nat.le_of_ble_eq_true rfl) (ds' := (aS r10.1)) rfl) ?_
  refine tr1 rfl (aH (v := .d (.lit (.bool r10.2))) (aA rfl) rfl rfl) ?_
  refine aG ?_
  refine rS ?_
  refine tH [0, 1, 6, 19, 20] (fun (s12 : Bool × (List Int) × (List (aK × Int)) × aK × (List Int) × (List Nat) × Nat × Nat × Value) => [(5, .d (.lit s12.2.2.2.2.2.2.2.2)), (7, .bp s12.2.2.2.2.2.2.2.1 0 0), (8, .d (.lit (.bool s12.1)))]) (fun (s12 : Bool × (List Int) × (List (aK × Int)) × aK × (List Int) × (List Nat) × Nat × Nat × Value) => [.arr d_0_players_v 3 1 (s12.2.1.map aP), .box d_0_b d_0_o [.lit (.int .i64 d_0_Tree.Rounds), .sl 1 (d_0_Tree.Slots.map aP), .lit d_0_players_v, .lit (.map (some d_0_won_r))], .map lucky_1_r (s12.2.2.1.map fun p : aK × Int => ((fun a : aK => Value.agg ((aS a).map cH).toArray) p.1, (fun v : Int => AV.d (.lit (.int .i64 v))) p.2)) s12.2.2.2.2.2.1 s12.2.2.2.2.2.2.1, .box s12.2.2.2.2.2.2.2.1 0 (aS s12.2.2.2.1), .arr s12.2.2.2.2.2.2.2.2 3 1 (s12.2.2.2.2.1.map aP)]) (fun (k : Nat) (s12 : Bool × (List Int) × (List (aK × Int)) × aK × (List Int) × (List Nat) × Nat × Nat × Value) => eJ Q (dT Q (d_0_players.length : Int) d_0_Tree k8) t20_0_4 (d_0_players.length : Int) t20_0_4 d_0_Tree k s12.1 s12.2.1 s12.2.2.1 s12.2.2.2.1 s12.2.2.2.2.1) (fun _ h => h) (r10.2, d_0_4, lucky_0_4, r10.1, o14_0_4, bs5, ck6, b11, w7) h (bE [1, 0, 2, 4, 3] rfl rfl (aU rfl (aU rfl (aU rfl (bC ⟨rfl, rfl, rfl, rfl, rfl, trivial⟩))))) ?_
  rintro k17 ⟨isv_2_12, d_2_12, lucky_2_12, s_2_12, o14_2_12, bs13, ck14, b15, w16⟩ h
  simp only [eJ] at h
  refine aF ?_
  refine aF ?_
  refine aC ?_
  refine tr1 rfl (aD (v := .d (.lit (.bool isv_2_12))) (aA rfl) rfl rfl) ?_
  refine aG ?_
  refine cA rfl (fun c18 => ?_) (fun c18 => ?_)
  ·have h := jE c18 h
   refine bX ?_
   refine aF ?_
   refine cO ?_
   refine aF ?_
   refine aF ?_
   refine aC ?_
   refine tr1 rfl (aD (v := .d (.lit w16)) (aA rfl) rfl rfl) ?_
   refine tr1 rfl (aN (aA rfl) rfl mG) ?_
   refine tr1 rfl (aR (aA rfl) rfl (i := 3) rfl rfl bL) ?_
   obtain ⟨r19, h20, h⟩ := jF h
   refine tr1 rfl (cL (aA rfl) (.func _ _ Try.call63) rfl rfl (.cons (.d (gQ 4 rfl (dD (f := aP) fun _ => rfl))) (.cons (.same _) .nil)) (fG _ _ h20) rfl) ?_
   refine aG ?_
   refine cA rfl (fun c21 => ?_) (fun c21 => ?_)
   ·have h := jE c21 h
    refine aF ?_
    refine aC ?_
    refine tr1 rfl (aH (v := .d (.lit (.bool false))) (aA rfl) rfl rfl) ?_
    refine aG ?_
    refine cQ (bE [1, 0, 2, 3, 4] rfl rfl (le_refl _)) ?_
    exact bU ⟨rfl, _, [.box d_0_b d_0_o [.lit (.int .i64 d_0_Tree.Rounds), .sl 1 (d_0_Tree.Slots.map aP), .lit d_0_players_v, .lit (.map (some d_0_won_r))], .arr d_0_players_v 3 1 (d_2_12.map aP), .map lucky_1_r (lucky_2_12.map fun p : aK × Int => ((fun a : aK => Value.agg ((aS a).map cH).toArray) p.1, (fun v : Int => AV.d (.lit (.int .i64 v))) p.2)) bs13 ck14], [.box b15 0 (aS s_2_12), .arr w16 3 1 (o14_2_12.map aP)], _, .one (.tmp 4 (v := .d (.lit (.bool false))) rfl), .refl _, .same _, (false, d_2_12, lucky_2_12), bs13, ck14, h, rfl, rfl⟩
   ·have h := jD c21 h
    refine bX ?_
    refine aF ?_
    refine eD mix 7 [0, 1, 5, 6, 7, 19, 20] [(45, .d (.lit d_0_players_v)), (46, .d (.lit (.int .i64 t20_0_4))), (48, .d (.lit (.int .i64 s_2_12.Player)))] ?_ ?_
    ·refine ⟨[(42, 0, .bp d_0_b d_0_o 0), (43, 1, .bp d_0_b d_0_o 0), (44, 2, .bp d_0_b d_0_o 2), (45, 3, .d (.lit d_0_players_v)), (46, 4, .d (.lit (.int .i64 t20_0_4))), (47, 5, .bp b15 0 3), (48, 6, .d (.lit (.int .i64 s_2_12.Player)))], ?_, ?_⟩
     · exact ⟨by kernel_rfl, by kernel_rfl, by kernel_rfl, by kernel_rfl, by kernel_rfl, [([], []), ([0], []), ([1], []), ([2], []), ([], []), ([], []), ([5], [])], by kernel_rfl, ⟨fun S hS => aE rfl (aJ rfl (aD (v := .bp d_0_b d_0_o 0) (aA rfl) (aB hS rfl) rfl)),
      fun S hS => aE rfl (aJ rfl (iR (aA rfl) (aB hS rfl))),
      fun S hS => aE rfl (aJ rfl (aN (aA rfl) (aB hS rfl) oN)),
      fun S hS => aE rfl (aJ rfl (aR (aA rfl) (aB hS rfl) (i := 1) rfl rfl dF)),
      fun S hS => aE rfl (aJ rfl (aD (v := .d (.lit (.int .i64 t20_0_4))) (aA rfl) (aB hS rfl) rfl)),
      fun S hS => aE rfl (aJ rfl (aN (aA rfl) (aB hS rfl) mG)),
      fun S hS => aE rfl (aJ rfl (aR (aA rfl) (aB hS rfl) (i := 3) rfl rfl bL)), trivial⟩⟩
     · exact dE (aU rfl (aU rfl (aU rfl (bC ⟨rfl, rfl, rfl, rfl, rfl, rfl, rfl, trivial⟩))))
    ·obtain ⟨x22, h23, h⟩ := jF h
     refine tr1 rfl (eG (m := 0) (aA rfl) rfl rfl rfl cT.of (bP aP h23)) ?_
     refine tr1 rfl (qO (l := 0) rfl rfl (jU aP h23) rfl rfl rfl Try.sizeOf3 rfl (aA rfl) (Nat.le_of_ble_eq_true rfl) (rows' := ((d_2_12.set t20_0_4.toNat s_2_12.Player)).map aP) (xW _ _ _ _ rfl)) ?_
     refine aG ?_
     refine aF ?_
     refine aC ?_
     refine tr1 rfl (aD (v := .d (.lit w16)) (aA rfl) rfl rfl) ?_
     refine tr1 rfl (aN (aA rfl) rfl mG) ?_
     refine tr1 rfl (aR (aA rfl) rfl (i := 3) rfl rfl bL) ?_
     refine tr1 rfl (eW (aA rfl) cT rfl rfl (rows := ([s_2_12.Player]).map aP) rfl (dD (f := aP) fun _ => rfl) rfl (by decide)) ?_
     obtain ⟨x24, h25, h⟩ := jF h
     refine cE rfl (fC (i := 4) (aA rfl) cT rfl rfl rfl (fun _ => rfl) h25 rfl) ?_
     rintro _ ⟨v26, rfl⟩
     refine tr1 rfl (aH (v := .d (.lit v26)) (aA rfl) rfl rfl) ?_
     refine aG ?_
     refine aC ?_
     refine tr1 rfl (aD (v := .d (.lit (.map (some lucky_1_r)))) (aA rfl) rfl rfl) ?_
     refine tr1 rfl (bN (aA rfl) rfl (i := 3) rfl jM (es := (aS s_2_12)) rfl rfl) ?_
     refine tr1 rfl (aNm (av := (fun v : Int => AV.d (.lit (.int .i64 v)))) (l := lucky_2_12) (a := s_2_12) (m := 2) aFe Try.underlying175 rfl rfl rfl rfl (kU (enc := aS) s_2_12 rfl)) ?_
     refine fB ?_
     refine aF ?_
     refine aF ?_
     refine aC ?_
     refine tr1 rfl (bN (aA rfl) rfl (i := 3) rfl jM (es := (aS s_2_12)) rfl rfl) ?_
     refine aG ?_
     refine aC ?_
     refine cE rfl (dM (zs := [.lit (.int .i64 0), .lit (.int .i64 0), .lit (.int .i64 0), .lit (.int .i64 0), .lit (.int .i64 0)]) (aA rfl) Try.zeroValue141 rfl rfl) ?_
     rintro _ ⟨b27, rfl⟩
     refine tr1 rfl (cM (i := 5) rfl rfl rfl rfl rfl Try.sizeOf141 rfl (aA rfl) (Nat.le_of_ble_eq_true rfl) (ds' := (aS s_2_12)) rfl) ?_
     refine aG ?_
     refine aC ?_
     refine tr1 rfl (aD (v := .bp d_0_b d_0_o 0) (aA rfl) rfl rfl) ?_
     refine tr1 rfl (aD (v := .d (.lit (.map (some lucky_1_r)))) (aA rfl) rfl rfl) ?_
     refine tr1 rfl (aD (v := .d (.lit (.int .i64 t20_0_4))) (aA rfl) rfl rfl) ?_
     refine kH (bE [1, 0, 2, 3, 4, 5] rfl rfl (le_refl _)) ?_
     refine cE rfl (nF (passed := [.box d_0_b d_0_o [.lit (.int .i64 d_0_Tree.Rounds), .sl 1 (d_0_Tree.Slots.map aP), .lit d_0_players_v, .lit (.map (some d_0_won_r))], .arr d_0_players_v 3 1 ((d_2_12.set t20_0_4.toNat s_2_12.Player).map aP), .map lucky_1_r ((nZ s_2_12 lucky_2_12).map fun p : aK × Int => ((fun a : aK => Value.agg ((aS a).map cH).toArray) p.1, (fun v : Int => AV.d (.lit (.int .i64 v))) p.2)) (wX s_2_12 lucky_2_12 bs13) ck14]) (aA rfl) rfl (.func _ _ Try.call131) rfl rfl (sS d_0_Tree (d_2_12.set t20_0_4.toNat s_2_12.Player) (nZ s_2_12 lucky_2_12) t20_0_4 h)) ?_
     rintro _ ⟨_, _, ⟨r28, h, rfl, rfl⟩, rfl⟩
     refine tr1 rfl (aD (v := .tup [.agg (aS r28.1), .d (.lit (.bool r28.2))]) (aA rfl) rfl rfl) ?_
     refine tr1 rfl (cD (aA rfl) rfl rfl) ?_
     refine tr1 rfl (cD (aA rfl) rfl rfl) ?_
     refine tr1 rfl (cM (i := 5) rfl rfl rfl rfl rfl Try.sizeOf141 rfl (aA rfl) (Nat.le_of_ble_eq_true rfl) (ds' := (aS r28.1)) rfl) ?_
     refine tr1 rfl (aH (v := .d (.lit (.bool r28.2))) (aA rfl) rfl rfl) ?_
     refine aG ?_
     exact ⟨(r28.2, (d_2_12.set t20_0_4.toNat s_2_12.Player), (nZ s_2_12 lucky_2_12), r28.1, x24, (wX s_2_12 lucky_2_12 bs13), ck14, b27, v26), h, bE [1, 0, 2, 5, 4] rfl rfl (aU rfl (aU rfl (aU rfl (bC ⟨rfl, rfl, rfl, rfl, rfl, trivial⟩))))⟩
  ·have h := jD c18 h
   refine dA ?_
   refine .inl ⟨rfl, ?_⟩
   simp only [kY] at h
   simp only [kX] at h
   refine aC ?_
   refine tr1 rfl (bT (aA rfl) rfl rfl rfl) ?_
   refine tr1 rfl (aD (v := .d (.lit (.int .i64 ((w64 (t20_0_4 + 1)))))) (aA rfl) rfl rfl) ?_
   refine aG ?_
   exact ⟨(w64 (t20_0_4 + 1), d_2_12, lucky_2_12, o14_2_12, bs13, ck14, w16), h, bE [0, 1, 2, 4] rfl rfl (aU rfl (aU rfl (bC ⟨rfl, rfl, rfl, trivial⟩)))⟩
 ·have h := jD c9 h
  refine dA ?_
  refine .inl ⟨rfl, ?_⟩
  simp only [kW] at h
  refine aF ?_
  refine aC ?_
  refine tr1 rfl (aD (v := .d (.lit (.map (some lucky_1_r)))) (aA rfl) rfl rfl) ?_
  refine tr1 rfl (aNo (m := 2) (aA rfl) Try.underlying175 rfl rfl) ?_
  refine tr1 rfl (bR (aA rfl) rfl rfl rfl) ?_
  refine tr1 rfl (aH (v := .d (.lit (.bool ((decide ((lucky_0_4.length : Int) = 0)))))) (aA rfl) rfl rfl) ?_
  refine aG ?_
  refine cQ (bE [1, 0, 2, 3] rfl rfl (le_refl _)) ?_
  exact bU ⟨rfl, _, [.box d_0_b d_0_o [.lit (.int .i64 d_0_Tree.Rounds), .sl 1 (d_0_Tree.Slots.map aP), .lit d_0_players_v, .lit (.map (some d_0_won_r))], .arr d_0_players_v 3 1 (d_0_4.map aP), .map lucky_1_r (lucky_0_4.map fun p : aK × Int => ((fun a : aK => Value.agg ((aS a).map cH).toArray) p.1, (fun v : Int => AV.d (.lit (.int .i64 v))) p.2)) bs5 ck6], [.arr w7 3 1 (o14_0_4.map aP)], _, .one (.tmp 4 (v := .d (.lit (.bool ((decide ((lucky_0_4.length : Int) = 0)))))) rfl), .refl _, .same _, (decide ((lucky_0_4.length : Int) = 0), d_0_4, lucky_0_4), bs5, ck6, h, rfl, rfl⟩

theorem vE (round_0 : Int) (slot_1 : Int) {r : aI} (h : oV round_0 slot_1 = some r) : Fn Try.prog 125 [.d (.lit (.int .i64 round_0)), .d (.lit (.int .i64 slot_1))] (.agg (aT r)) := by
 unfold oV at h
 refine rA Try.func125 rfl (rs := [.cell 4 112]) Try.results125 Try.ntmps125 (Nat.le_of_ble_eq_true rfl) ?_
 refine aF ?_
 refine aC ?_
 refine cE rfl (dM (zs := [.lit (.int .i64 0), .lit (.int .i64 0)]) (aA rfl) Try.zeroValue112 rfl rfl) ?_
 rintro _ ⟨b1, rfl⟩
 refine aG ?_
 refine aF ?_
 refine aC ?_
 refine tr1 rfl (aD (v := .d (.lit (.int .i64 round_0))) (aA rfl) rfl rfl) ?_
 refine tr1 rfl (aD (v := .d (.lit (.int .i64 slot_1))) (aA rfl) rfl rfl) ?_
 refine tr1 rfl (aD (v := .d (.lit (.int .i64 round_0))) (aA rfl) rfl rfl) ?_
 refine tr1 rfl (bT (aA rfl) rfl rfl rfl) ?_
 obtain ⟨u2, h3, h⟩ := bind_some h
 refine tr1 rfl (aBz (aA rfl) rfl rfl (rB h3)) ?_
 refine tr1 rfl (eA (aA rfl) uY (zs := [.lit (.int .i64 0), .lit (.int .i64 0)]) rfl rfl rfl rfl (es := [.lit (.int .i64 round_0), .lit (.int .i64 ((slot_1.fdiv (2 ^ (min (w64 (round_0 + 1)).toNat 64)))))]) rfl) ?_
 refine tr1 rfl (cM (i := 0) rfl rfl rfl rfl rfl Try.sizeOf112 rfl (aA rfl) (Nat.le_of_ble_eq_true rfl) (ds' := (aT (aI.mk round_0 (slot_1.fdiv (2 ^ (min (w64 (round_0 + 1)).toNat 64)))))) rfl) ?_
 refine aG ?_
 have h := Option.some.inj h
 subst h
 exact bU ⟨rfl, _, [.box b1 0 (aT (aI.mk round_0 (slot_1.fdiv (2 ^ (min (w64 (round_0 + 1)).toNat 64)))))], .one (.cell 4 112 rfl (i := 0) rfl jZ (es := (aT (aI.mk round_0 (slot_1.fdiv (2 ^ (min (w64 (round_0 + 1)).toNat 64)))))) rfl rfl), .refl _, .same _⟩

theorem sU (d_0_Tree : bD) (d_0_players : List Int) (d_0_won : List (aI × Int)) (slot_1 : Int) (round_2 : Int) {r : Bool × (List (aI × Int))} {d_0_b d_0_o : Nat} {d_0_players_v : Value} {d_0_won_r : Nat} {d_0_won_bs : List Nat} {d_0_won_ck : Nat} (h : kR d_0_Tree d_0_players d_0_won slot_1 round_2 = some r) : gF Try.prog 124 [.bp d_0_b d_0_o 0, .d (.lit (.int .i64 slot_1)), .d (.lit (.int .i64 round_2))] [.box d_0_b d_0_o [.lit (.int .i64 d_0_Tree.Rounds), .sl 1 (d_0_Tree.Slots.map aP), .lit d_0_players_v, .lit (.map (some d_0_won_r))], .arr d_0_players_v 3 1 (d_0_players.map aP), .map d_0_won_r (d_0_won.map fun p : aI × Int => ((fun a : aI => Value.agg ((aT a).map cH).toArray) p.1, (fun v : Int => AV.d (.lit (.int .i64 v))) p.2)) d_0_won_bs d_0_won_ck] (fun r' o' => ∃ (bs2 : List Nat) (ck2 : Nat), r' = .d (.lit (.bool r.1)) ∧ o' = [.box d_0_b d_0_o [.lit (.int .i64 d_0_Tree.Rounds), .sl 1 (d_0_Tree.Slots.map aP), .lit d_0_players_v, .lit (.map (some d_0_won_r))], .arr d_0_players_v 3 1 (d_0_players.map aP), .map d_0_won_r (r.2.map fun p : aI × Int => ((fun a : aI => Value.agg ((aT a).map cH).toArray) p.1, (fun v : Int => AV.d (.lit (.int .i64 v))) p.2)) bs2 ck2]) := by
 unfold kR at h
 refine lH Try.func124 rfl (rs := [.tmp 6]) Try.results124 Try.ntmps124 (Nat.le_of_ble_eq_true rfl) ?_
 refine aF ?_
 refine aC ?_
 refine tr1 rfl (aH (v := .d (.lit (.bool false))) (aA rfl) rfl rfl) ?_
 refine aG ?_
 refine aF ?_
 refine aF ?_
 refine aC ?_
 refine tr1 rfl (aD (v := .d (.lit (.int .i64 round_2))) (aA rfl) rfl rfl) ?_
 refine tr1 rfl (bT (aA rfl) rfl rfl rfl) ?_
 refine tr1 rfl (aD (v := .d (.lit (.int .i64 0))) (aA rfl) rfl rfl) ?_
 refine aG ?_
 refine cO ?_
 refine dG [0, 1, 12] (fun (s1 : Int × (List (aI × Int)) × (List Nat) × Nat) => [(13, .d (.lit (.int .i64 s1.1)))]) (fun (s1 : Int × (List (aI × Int)) × (List Nat) × Nat) => [.arr d_0_players_v 3 1 (d_0_players.map aP), .map d_0_won_r (s1.2.1.map fun p : aI × Int => ((fun a : aI => Value.agg ((aT a).map cH).toArray) p.1, (fun v : Int => AV.d (.lit (.int .i64 v))) p.2)) s1.2.2.1 s1.2.2.2, .box d_0_b d_0_o [.lit (.int .i64 d_0_Tree.Rounds), .sl 1 (d_0_Tree.Slots.map aP), .lit d_0_players_v, .lit (.map (some d_0_won_r))]]) (fun (k : Nat) (s1 : Int × (List (aI × Int)) × (List Nat) × Nat) => iB slot_1 (w64 (round_2 + 1)) d_0_players d_0_Tree k s1.1 s1.2.1) (fun _ => rfl) (0, d_0_won, d_0_won_bs, d_0_won_ck) h (bE [1, 2, 0] rfl rfl (aU rfl (bC ⟨rfl, rfl, rfl, trivial⟩))) ?_
 rintro k4 ⟨t13_0_1, d_0_1_2, bs2, ck3⟩ h
 simp only [iB] at h
 refine aF ?_
 refine aC ?_
 refine tr1 rfl (bR (aA rfl) rfl rfl rfl) ?_
 refine aG ?_
 refine aF ?_
 refine cA rfl (fun c5 => ?_) (fun c5 => ?_)
 ·have h := aX c5 h
  refine bX ?_
  refine aF ?_
  refine cO ?_
  refine aF ?_
  refine aC ?_
  refine tr1 rfl (aD (v := .d (.lit (.int .i64 t13_0_1))) (aA rfl) rfl rfl) ?_
  refine tr1 rfl (aH (v := .d (.lit (.int .i64 t13_0_1))) (aA rfl) rfl rfl) ?_
  refine aG ?_
  refine aF ?_
  refine aC ?_
  refine tr1 rfl (aD (v := .d (.lit (.int .i64 t13_0_1))) (aA rfl) rfl rfl) ?_
  refine tr1 rfl (aD (v := .d (.lit (.int .i64 slot_1))) (aA rfl) rfl rfl) ?_
  obtain ⟨r6, h7, h⟩ := bind_some h
  refine tr1 rfl (fT (aA rfl) (.func _ _ Try.call125) rfl rfl (vE _ _ h7)) ?_
  refine cE rfl (dM (zs := [.lit (.int .i64 0), .lit (.int .i64 0)]) (aA rfl) Try.zeroValue112 rfl rfl) ?_
  rintro _ ⟨b8, rfl⟩
  refine tr1 rfl (cM (i := 3) rfl rfl rfl rfl rfl Try.sizeOf112 rfl (aA rfl) (Nat.le_of_ble_eq_true rfl) (ds' := (aT r6)) rfl) ?_
  refine aG ?_
  refine aF ?_
  refine aF ?_
  refine eD mix 10 [0, 1, 8, 12, 13] [(9, .d (.lit (.int .i64 ((dK r6 0 d_0_1_2))))), (27, .d (.lit (.bool ((eF r6 d_0_1_2)))))] ?_ ?_
  ·refine ⟨[(20, 0, .bp d_0_b d_0_o 0), (21, 1, .bp d_0_b d_0_o 0), (22, 2, .bp d_0_b d_0_o 3), (23, 3, .d (.lit (.map (some d_0_won_r)))), (24, 4, .agg (aT r6)), (25, 5, .tup [.d (.lit (.int .i64 ((dK r6 0 d_0_1_2)))), .d (.lit (.bool ((eF r6 d_0_1_2))))]), (19, 6, .tup [.d (.lit (.int .i64 ((dK r6 0 d_0_1_2)))), .d (.lit (.bool ((eF r6 d_0_1_2))))]), (26, 7, .d (.lit (.int .i64 ((dK r6 0 d_0_1_2))))), (27, 8, .d (.lit (.bool ((eF r6 d_0_1_2))))), (9, 9, .d (.lit (.int .i64 ((dK r6 0 d_0_1_2)))))], ?_, ?_⟩
   · exact ⟨by kernel_rfl, by kernel_rfl, by kernel_rfl, by kernel_rfl, by kernel_rfl, [([], []), ([0], []), ([1], []), ([2], []), ([], []), ([3, 4], []), ([5], []), ([6], []), ([6], []), ([7], [])], by kernel_rfl, ⟨fun S hS => aE rfl (aJ rfl (aD (v := .bp d_0_b d_0_o 0) (aA rfl) (aB hS rfl) rfl)),
      fun S hS => aE rfl (aJ rfl (iR (aA rfl) (aB hS rfl))),
      fun S hS => aE rfl (aJ rfl (aN (aA rfl) (aB hS rfl) wF)),
      fun S hS => aE rfl (aJ rfl (aR (aA rfl) (aB hS rfl) (i := 2) rfl rfl aBt)),
      fun S hS => aE rfl (aJ rfl (bN (aA rfl) (aB hS rfl) (i := 3) rfl jZ (es := (aT r6)) rfl rfl)),
      fun S hS => aE rfl (aJ rfl (aEs (av := (fun v : Int => AV.d (.lit (.int .i64 v)))) (l := d_0_1_2) (z := 0) (a := r6) (m := 1) (aA rfl) uW Try.underlying116 Try.zeroValue3 (fun _ _ => .d (.lit _ rfl)) (aB hS rfl) rfl rfl (aB hS rfl) (kU (enc := aT) r6 rfl))),
      fun S hS => aE rfl (aJ rfl (aD (v := .tup [.d (.lit (.int .i64 ((dK r6 0 d_0_1_2)))), .d (.lit (.bool ((eF r6 d_0_1_2))))]) (aA rfl) (aB hS rfl) rfl)),
      fun S hS => aE rfl (aJ rfl (cD (aA rfl) (aB hS rfl) rfl)),
      fun S hS => aE rfl (aJ rfl (cD (aA rfl) (aB hS rfl) rfl)),
      fun S hS => aE rfl (aJ rfl (aH (v := .d (.lit (.int .i64 ((dK r6 0 d_0_1_2))))) (aA rfl) (aB hS rfl) rfl)), trivial⟩⟩
   · exact dE (aU rfl (aU rfl (bC ⟨rfl, rfl, rfl, rfl, rfl, trivial⟩)))
  ·refine tr1 rfl (aH (v := .d (.lit (.bool ((eF r6 d_0_1_2))))) (aA rfl) rfl rfl) ?_
   refine aG ?_
   refine aF ?_
   refine aC ?_
   refine tr1 rfl (aD (v := .d (.lit (.bool ((eF r6 d_0_1_2))))) (aA rfl) rfl rfl) ?_
   refine tr1 rfl (aD (v := .d (.lit (.bool ((eF r6 d_0_1_2))))) (aA rfl) rfl rfl) ?_
   obtain ⟨b9, h10, h⟩ := bind_some h
   refine cS 10 [0, 1, 8, 12, 13] 39 b9 ?_ ?_
   ·refine bY (eF r6 d_0_1_2) (fun c14 => ?_) (fun c14 => ?_)
    ·have h10 := aX c14 h10
     refine aM rfl rfl (aA rfl) rfl c14 (aD (v := .d (.lit (.int .i64 ((dK r6 0 d_0_1_2))))) (aA rfl) rfl rfl) ?_
     refine aM rfl rfl (aA rfl) rfl c14 (aD (v := .bp d_0_b d_0_o 0) (aA rfl) rfl rfl) ?_
     refine aM rfl rfl (aA rfl) rfl c14 (iR (aA rfl) rfl) ?_
     refine aM rfl rfl (aA rfl) rfl c14 (aN (aA rfl) rfl oN) ?_
     refine aM rfl rfl (aA rfl) rfl c14 (aR (aA rfl) rfl (i := 2) rfl rfl dF) ?_
     refine aM rfl rfl (aA rfl) rfl c14 (aD (v := .d (.lit (.int .i64 slot_1))) (aA rfl) rfl rfl) ?_
     obtain ⟨x15, h16, h10⟩ := bind_some h10
     refine aM rfl rfl (aA rfl) rfl c14 (eG (m := 0) (aA rfl) rfl rfl rfl cT.of (bP aP h16)) ?_
     refine aM rfl rfl (aA rfl) rfl c14 (iK (aA rfl) rfl (m := 0) rfl (jU aP h16) rfl bL) ?_
     refine aM rfl rfl (aA rfl) rfl c14 (bR (aA rfl) rfl rfl rfl) ?_
     refine tr1 rfl (cC (v := .d (.lit (.bool ((!decide ((dK r6 0 d_0_1_2) = x15)))))) (aA rfl) rfl c14 rfl rfl) ?_
     have h10 := Option.some.inj h10
     subst h10
     refine aG (bM rfl ⟨rfl, rfl, rfl, rfl, rfl, trivial⟩ rfl)
    ·have h10 := aY c14 h10
     refine aO rfl rfl (aA rfl) rfl (aA rfl) rfl c14 ?_
     refine aO rfl rfl (aA rfl) rfl (aA rfl) rfl c14 ?_
     refine aO rfl rfl (aA rfl) rfl (aA rfl) rfl c14 ?_
     refine aO rfl rfl (aA rfl) rfl (aA rfl) rfl c14 ?_
     refine aO rfl rfl (aA rfl) rfl (aA rfl) rfl c14 ?_
     refine aO rfl rfl (aA rfl) rfl (aA rfl) rfl c14 ?_
     refine aO rfl rfl (aA rfl) rfl (aA rfl) rfl c14 ?_
     refine aO rfl rfl (aA rfl) rfl (aA rfl) rfl c14 ?_
     refine aO rfl rfl (aA rfl) rfl (aA rfl) rfl c14 ?_
     refine tr1 rfl (cB (v := .d (.lit (.bool false))) (aA rfl) rfl c14 rfl rfl) ?_
     have h10 := Option.some.inj h10
     subst h10
     refine aG (bM rfl ⟨rfl, rfl, rfl, rfl, rfl, trivial⟩ rfl)
   ·refine aG ?_
    refine cA rfl (fun c11 => ?_) (fun c11 => ?_)
    ·have h := aX c11 h
     refine aF ?_
     refine aC ?_
     refine tr1 rfl (aH (v := .d (.lit (.bool false))) (aA rfl) rfl rfl) ?_
     refine aG ?_
     have h := Option.some.inj h
     subst h
     refine cQ (bE [2, 0, 1, 3] rfl rfl (le_refl _)) ?_
     exact bU ⟨rfl, _, [.box d_0_b d_0_o [.lit (.int .i64 d_0_Tree.Rounds), .sl 1 (d_0_Tree.Slots.map aP), .lit d_0_players_v, .lit (.map (some d_0_won_r))], .arr d_0_players_v 3 1 (d_0_players.map aP), .map d_0_won_r (d_0_1_2.map fun p : aI × Int => ((fun a : aI => Value.agg ((aT a).map cH).toArray) p.1, (fun v : Int => AV.d (.lit (.int .i64 v))) p.2)) bs2 ck3], [.box b8 0 (aT r6)], _, .one (.tmp 6 (v := .d (.lit (.bool false))) rfl), .refl _, .same _, bs2, ck3, rfl, rfl⟩
    ·have h := aY c11 h
     refine bX ?_
     obtain ⟨x12, h13, h⟩ := bind_some h
     refine eD mix 12 [0, 1, 12, 13] [(43, .d (.lit (.map (some d_0_won_r)))), (44, .agg (aT r6)), (51, .d (.lit (.int .i64 x12)))] ?_ ?_
     ·refine ⟨[(40, 0, .bp d_0_b d_0_o 0), (41, 1, .bp d_0_b d_0_o 0), (42, 2, .bp d_0_b d_0_o 3), (43, 3, .d (.lit (.map (some d_0_won_r)))), (44, 4, .agg (aT r6)), (45, 5, .bp d_0_b d_0_o 0), (46, 6, .bp d_0_b d_0_o 0), (47, 7, .bp d_0_b d_0_o 2), (48, 8, .d (.lit d_0_players_v)), (49, 9, .d (.lit (.int .i64 slot_1))), (50, 10, .ep d_0_players_v 1 slot_1.toNat 0), (51, 11, .d (.lit (.int .i64 x12)))], ?_, ?_⟩
      · exact ⟨by kernel_rfl, by kernel_rfl, by kernel_rfl, by kernel_rfl, by kernel_rfl, [([], []), ([0], []), ([1], []), ([2], []), ([], []), ([], []), ([5], []), ([6], []), ([7], []), ([], []), ([8, 9], []), ([10], [])], by kernel_rfl, ⟨fun S hS => aE rfl (aJ rfl (aD (v := .bp d_0_b d_0_o 0) (aA rfl) (aB hS rfl) rfl)),
      fun S hS => aE rfl (aJ rfl (iR (aA rfl) (aB hS rfl))),
      fun S hS => aE rfl (aJ rfl (aN (aA rfl) (aB hS rfl) wF)),
      fun S hS => aE rfl (aJ rfl (aR (aA rfl) (aB hS rfl) (i := 2) rfl rfl aBt)),
      fun S hS => aE rfl (aJ rfl (bN (aA rfl) (aB hS rfl) (i := 3) rfl jZ (es := (aT r6)) rfl rfl)),
      fun S hS => aE rfl (aJ rfl (aD (v := .bp d_0_b d_0_o 0) (aA rfl) (aB hS rfl) rfl)),
      fun S hS => aE rfl (aJ rfl (iR (aA rfl) (aB hS rfl))),
      fun S hS => aE rfl (aJ rfl (aN (aA rfl) (aB hS rfl) oN)),
      fun S hS => aE rfl (aJ rfl (aR (aA rfl) (aB hS rfl) (i := 2) rfl rfl dF)),
      fun S hS => aE rfl (aJ rfl (aD (v := .d (.lit (.int .i64 slot_1))) (aA rfl) (aB hS rfl) rfl)),
      fun S hS => aE rfl (aJ rfl (eG (m := 0) (aA rfl) (aB hS rfl) rfl (aB hS rfl) cT.of (bP aP h13))),
      fun S hS => aE rfl (aJ rfl (iK (aA rfl) (aB hS rfl) (m := 0) rfl (jU aP h13) rfl bL)), trivial⟩⟩
      · exact dE (aU rfl (aU rfl (aU rfl (bC ⟨rfl, rfl, rfl, rfl, trivial⟩))))
     ·refine tr1 rfl (wZ (av := (fun v : Int => AV.d (.lit (.int .i64 v)))) (l := d_0_1_2) (v := x12) (a := r6) (m := 1) uW Try.underlying116 rfl rfl rfl rfl (kU (enc := aT) r6 rfl) rfl rfl) ?_
      refine fB ?_
      refine aC ?_
      refine tr1 rfl (bT (aA rfl) rfl rfl rfl) ?_
      refine tr1 rfl (aD (v := .d (.lit (.int .i64 ((w64 (t13_0_1 + 1)))))) (aA rfl) rfl rfl) ?_
      refine aG ?_
      exact ⟨(w64 (t13_0_1 + 1), (fH r6 x12 d_0_1_2), (mbs r6 d_0_1_2 bs2 ck3), (mck r6 d_0_1_2 ck3)), h, bE [0, 1, 2] rfl rfl (aU rfl (bC ⟨rfl, rfl, rfl, trivial⟩))⟩
 ·have h := aY c5 h
  refine dA ?_
  refine .inl ⟨rfl, ?_⟩
  simp only [oU] at h
  refine aF ?_
  refine aC ?_
  refine tr1 rfl (aH (v := .d (.lit (.bool true))) (aA rfl) rfl rfl) ?_
  refine aG ?_
  have h := Option.some.inj h
  subst h
  refine cQ (bE [2, 0, 1] rfl rfl (le_refl _)) ?_
  exact bU ⟨rfl, _, [.box d_0_b d_0_o [.lit (.int .i64 d_0_Tree.Rounds), .sl 1 (d_0_Tree.Slots.map aP), .lit d_0_players_v, .lit (.map (some d_0_won_r))], .arr d_0_players_v 3 1 (d_0_players.map aP), .map d_0_won_r (d_0_1_2.map fun p : aI × Int => ((fun a : aI => Value.agg ((aT a).map cH).toArray) p.1, (fun v : Int => AV.d (.lit (.int .i64 v))) p.2)) bs2 ck3], [], _, .one (.tmp 6 (v := .d (.lit (.bool true))) rfl), .refl _, .same _, bs2, ck3, rfl, rfl⟩

theorem aDs (t_0 : bD) (l_1 : List aK) {Q : ((Option cJ) × Bool) → Prop} (h : pD t_0 l_1 Q) : gF Try.prog 106 [.agg (bG t_0), .d (.sl 5 (l_1.map aS))] [] (fun r' o' => ∃ (r : (Option cJ) × Bool), Q r ∧ r' = .tup [eO cK r.1, .d (.lit (.bool r.2))] ∧ o' = []) := by
 unfold pD at h
 refine lH Try.func106 rfl (rs := [.tmp 4, .tmp 5]) Try.results106 Try.ntmps106 (Nat.le_of_ble_eq_true rfl) ?_
 refine aF ?_
 refine aC ?_
 refine cE rfl (eC (v := .agg (bG t_0)) (aA rfl) rfl rfl rfl) ?_
 rintro _ ⟨b1, rfl⟩
 refine tr1 rfl (aH (v := eO cK (none : Option cJ)) (aA rfl) rfl rfl) ?_
 refine tr1 rfl (aH (v := .d (.lit (.bool false))) (aA rfl) rfl rfl) ?_
 refine aG ?_
 refine aF ?_
 obtain ⟨r3, h4, h⟩ := jF h
 refine gN mix 5 [1] (fun X2 => [(19, .agg (bG t_0)), (22, .d (.lit (X2 3).v)), (23, .d (.lit (.map (some (X2 4).b))))]) (fun X2 => [.box b1 0 (bG t_0), .arr (X2 3).v 3 1 (r3.map aP), .map (X2 4).b (([] : List (aI × Int)).map fun p : aI × Int => ((fun a : aI => Value.agg ((aT a).map cH).toArray) p.1, (fun v : Int => AV.d (.lit (.int .i64 v))) p.2)) ([]) 0]) ?_ ?_
 ·refine ⟨2, fun X2 => [(19, 0, .agg (bG t_0)), (20, 1, .bp b1 0 1), (21, 2, .d (.sl 1 (t_0.Slots.map aP))), (22, 3, .d (.lit (X2 3).v)), (23, 4, .d (.lit (.map (some (X2 4).b))))], fun X2 => [([], .box b1 0 (bG t_0)), ([(3, .arr (X2 3).v 3 1 (r3.map aP))], nob), ([(4, .map (X2 4).b (([] : List (aI × Int)).map fun p : aI × Int => ((fun a : aI => Value.agg ((aT a).map cH).toArray) p.1, (fun v : Int => AV.d (.lit (.int .i64 v))) p.2)) ([]) 0)], nob)], ?_, ?_⟩
  · exact ⟨by kernel_rfl, by kernel_rfl, by kernel_rfl, fun _ => by kernel_rfl, fun _ => by kernel_rfl, fun _ => by kernel_rfl, fun _ => rfl, [([], []), ([], [3]), ([1], [3]), ([2], []), ([], [])], by kernel_rfl, ⟨fun X2 S hw hi hS => bH (X := X2) rfl (hw X2) rfl (aJ rfl (bN (aA rfl) (aB hS rfl) (i := 0) (og hS rfl rfl) fO (es := (bG t_0)) rfl rfl)),
      fun X2 S hw hi hS => bH (X := X2) rfl (hw X2) rfl (aJ rfl (aN (aA rfl) (aB hS rfl) eT)),
      fun X2 S hw hi hS => bH (X := X2) rfl (hw X2) rfl (aJ rfl (aR (aA rfl) (aB hS rfl) (i := 0) (og hS rfl rfl) rfl dF)),
      fun X2 S hw hi hS => qZ (X := X2) (p := 1) (v := fun x => .d (.lit x.v)) (mo := fun x => .arr x.v 3 1 (r3.map aP)) hS hi rfl rfl (fun _ => rfl) hw (fun _ => rfl) (fun _ => rfl) (fun _ => rfl) (fun _ => ⟨rfl, rfl, .inr rfl, ⟨rfl, rfl, .inr rfl, ⟨rfl, rfl, .inr rfl, ⟨rfl, rfl, .inl rfl, ⟨rfl, rfl, .inr rfl, trivial⟩⟩⟩⟩⟩) (fun _ => ⟨trivial, rfl, ⟨⟨rfl, .inl rfl, trivial⟩, rfl, ⟨⟨rfl, .inr rfl, trivial⟩, rfl, trivial⟩⟩⟩) (iL (aEp (aA rfl) (.func _ _ Try.call122) (ev2 (aB hS rfl) evn) rfl (sY _ h4)) (by rintro _ ⟨w, rfl⟩; exact ⟨⟨0, w⟩, bE [0, 3, 2] rfl rfl (le_refl _)⟩)),
      fun X2 S hw hi hS => qZ (X := X2) (p := 2) (v := fun x => .d (.lit (.map (some x.b)))) (mo := fun x => .map x.b (([] : List (aI × Int)).map fun p : aI × Int => ((fun a : aI => Value.agg ((aT a).map cH).toArray) p.1, (fun v : Int => AV.d (.lit (.int .i64 v))) p.2)) ([]) 0) hS hi rfl rfl (fun _ => rfl) hw (fun _ => rfl) (fun _ => rfl) (fun _ => rfl) (fun _ => ⟨rfl, rfl, .inr rfl, ⟨rfl, rfl, .inr rfl, ⟨rfl, rfl, .inr rfl, ⟨rfl, rfl, .inr rfl, ⟨rfl, rfl, .inl rfl, trivial⟩⟩⟩⟩⟩) (fun _ => ⟨trivial, rfl, ⟨⟨rfl, .inr rfl, trivial⟩, rfl, ⟨⟨rfl, .inl rfl, trivial⟩, rfl, trivial⟩⟩⟩) (iL (uD (aA rfl)) (by rintro _ ⟨w, rfl⟩; exact ⟨⟨w, undef⟩, bE [0, 1, 3] rfl rfl (le_refl _)⟩)), trivial⟩⟩
  · exact fun X2 => dE (aU rfl (aU rfl (aU rfl (bC ⟨rfl, trivial⟩))))
 ·intro X2
  refine tr1 rfl (eA (aA rfl) aOz (zs := [.lit (.int .i64 0), .sl 1 ((([] : List Int)).map aP), .sl 1 ((([] : List Int)).map aP), .lit (.map none)]) rfl rfl rfl rfl (es := [.lit (.int .i64 t_0.Rounds), .sl 1 (t_0.Slots.map aP), .lit (X2 3).v, .lit (.map (some (X2 4).b))]) rfl) ?_
  refine cE rfl (eC (v := .agg [.lit (.int .i64 t_0.Rounds), .sl 1 (t_0.Slots.map aP), .lit (X2 3).v, .lit (.map (some (X2 4).b))]) (aA rfl) rfl rfl rfl) ?_
  rintro _ ⟨b5, rfl⟩
  refine tr1 rfl (aH (v := .bp b5 0 0) (aA rfl) rfl rfl) ?_
  refine aG ?_
  refine aF ?_
  refine aC ?_
  refine cE rfl (uD (aA rfl)) ?_
  rintro _ ⟨r6, rfl⟩
  refine cE rfl (uD (aA rfl)) ?_
  rintro _ ⟨r7, rfl⟩
  refine tr1 rfl (aH (v := .d (.lit (.map (some r6)))) (aA rfl) rfl rfl) ?_
  refine tr1 rfl (aH (v := .d (.lit (.map (some r7)))) (aA rfl) rfl rfl) ?_
  refine aG ?_
  refine aF ?_
  refine aF ?_
  refine aC ?_
  refine tr1 rfl (aD (v := .d (.sl 5 (l_1.map aS))) (aA rfl) rfl rfl) ?_
  refine tr1 rfl (dC (aA rfl) rfl iW.of) ?_
  refine tr1 rfl (aD (v := .d (.lit (.int .i64 0))) (aA rfl) rfl rfl) ?_
  refine aG ?_
  refine cO ?_
  refine tH [6, 7, 8, 28, 29] (fun (s8 : Int × (List (aK × Int)) × (List (aI × aK)) × (List Nat) × Nat × (List Nat) × Nat) => [(30, .d (.lit (.int .i64 s8.1)))]) (fun (s8 : Int × (List (aK × Int)) × (List (aI × aK)) × (List Nat) × Nat × (List Nat) × Nat) => [.arr (X2 3).v 3 1 (r3.map aP), .map (X2 4).b (([] : List (aI × Int)).map fun p : aI × Int => ((fun a : aI => Value.agg ((aT a).map cH).toArray) p.1, (fun v : Int => AV.d (.lit (.int .i64 v))) p.2)) ([]) 0, .box b5 0 [.lit (.int .i64 t_0.Rounds), .sl 1 (t_0.Slots.map aP), .lit (X2 3).v, .lit (.map (some (X2 4).b))], .map r6 (s8.2.1.map fun p : aK × Int => ((fun a : aK => Value.agg ((aS a).map cH).toArray) p.1, (fun v : Int => AV.d (.lit (.int .i64 v))) p.2)) s8.2.2.2.1 s8.2.2.2.2.1, .map r7 (s8.2.2.1.map fun p : aI × aK => ((fun a : aI => Value.agg ((aT a).map cH).toArray) p.1, (fun v : aK => AV.agg (aS v)) p.2)) s8.2.2.2.2.2.1 s8.2.2.2.2.2.2]) (fun (k : Nat) (s8 : Int × (List (aK × Int)) × (List (aI × aK)) × (List Nat) × Nat × (List Nat) × Nat) => hH Q l_1 (l_1.length : Int) r3 ([] : List (aI × Int)) t_0 k s8.1 s8.2.1 s8.2.2.1) (fun _ h => h) (0, ([] : List (aK × Int)), ([] : List (aI × aK)), [], 0, [], 0) h (bE [1, 2, 3, 4, 5] rfl rfl (aU rfl (bC ⟨rfl, rfl, rfl, rfl, rfl, trivial⟩))) ?_
  rintro k13 ⟨t30_0_8, o26_0_8, o27_0_8, bs9, ck10, bs11, ck12⟩ h
  simp only [hH] at h
  refine aF ?_
  refine aC ?_
  refine tr1 rfl (bR (aA rfl) rfl rfl rfl) ?_
  refine aG ?_
  refine aF ?_
  refine cA rfl (fun c14 => ?_) (fun c14 => ?_)
  ·have h := jE c14 h
   refine bX ?_
   refine aF ?_
   refine cO ?_
   refine aF ?_
   refine aC ?_
   obtain ⟨x15, h16, h⟩ := jF h
   refine tr1 rfl (bJ (aA rfl) rfl rfl iW.of (bP aS h16)) ?_
   refine tr1 rfl (dB (aA rfl) rfl jM (es := (aS x15)) rfl rfl) ?_
   refine cE rfl (dM (zs := [.lit (.int .i64 0), .lit (.int .i64 0), .lit (.int .i64 0), .lit (.int .i64 0), .lit (.int .i64 0)]) (aA rfl) Try.zeroValue141 rfl rfl) ?_
   rintro _ ⟨b17, rfl⟩
   refine tr1 rfl (cM (i := 5) rfl rfl rfl rfl rfl Try.sizeOf141 rfl (aA rfl) (Nat.le_of_ble_eq_true rfl) (ds' := (aS x15)) rfl) ?_
   refine aG ?_
   refine aF ?_
   refine aF ?_
   refine aC ?_
   refine tr1 rfl (aN (aA rfl) rfl nL) ?_
   refine tr1 rfl (aR (aA rfl) rfl (i := 5) rfl rfl bL) ?_
   refine tr1 rfl (bR (aA rfl) rfl rfl rfl) ?_
   refine aG ?_
   refine cA rfl (fun c18 => ?_) (fun c18 => ?_)
   ·have h := jE c18 h
    refine aF ?_
    refine gN mix 6 [6, 7, 8, 28, 29, 30] (fun X19 => [(37, .d (.lit (.map (some r6)))), (40, .d (.lit (.int .i64 ((w64 ((dK x15 0 o26_0_8) + 1)))))), (42, .d (.lit (.int .i64 (mS x15 o26_0_8 bs9 ck10))))]) (fun X19 => [.arr (X2 3).v 3 1 (r3.map aP), .map (X2 4).b (([] : List (aI × Int)).map fun p : aI × Int => ((fun a : aI => Value.agg ((aT a).map cH).toArray) p.1, (fun v : Int => AV.d (.lit (.int .i64 v))) p.2)) ([]) 0, .box b5 0 [.lit (.int .i64 t_0.Rounds), .sl 1 (t_0.Slots.map aP), .lit (X2 3).v, .lit (.map (some (X2 4).b))], .map r6 ((mR x15 0 o26_0_8).map fun p : aK × Int => ((fun a : aK => Value.agg ((aS a).map cH).toArray) p.1, (fun v : Int => AV.d (.lit (.int .i64 v))) p.2)) (mbs x15 o26_0_8 bs9 ck10) (mck x15 o26_0_8 ck10), .map r7 (o27_0_8.map fun p : aI × aK => ((fun a : aI => Value.agg ((aT a).map cH).toArray) p.1, (fun v : aK => AV.agg (aS v)) p.2)) bs11 ck12, .box b17 0 (aS x15)]) ?_ ?_
    ·refine ⟨0, fun X19 => [(37, 0, .d (.lit (.map (some r6)))), (38, 1, .agg (aS x15)), (39, 2, .d (.lit (.int .i64 ((dK x15 0 o26_0_8))))), (40, 3, .d (.lit (.int .i64 ((w64 ((dK x15 0 o26_0_8) + 1)))))), (41, 4, .tup [.d (.lit (.int .i64 ((dK x15 0 o26_0_8)))), .d (.lit (.int .i64 (mS x15 o26_0_8 bs9 ck10)))]), (42, 5, .d (.lit (.int .i64 (mS x15 o26_0_8 bs9 ck10))))], fun X19 => [([], .arr (X2 3).v 3 1 (r3.map aP)), ([], .map (X2 4).b (([] : List (aI × Int)).map fun p : aI × Int => ((fun a : aI => Value.agg ((aT a).map cH).toArray) p.1, (fun v : Int => AV.d (.lit (.int .i64 v))) p.2)) ([]) 0), ([], .box b5 0 [.lit (.int .i64 t_0.Rounds), .sl 1 (t_0.Slots.map aP), .lit (X2 3).v, .lit (.map (some (X2 4).b))]), ([(4, .map r6 ((mR x15 0 o26_0_8).map fun p : aK × Int => ((fun a : aK => Value.agg ((aS a).map cH).toArray) p.1, (fun v : Int => AV.d (.lit (.int .i64 v))) p.2)) (mbs x15 o26_0_8 bs9 ck10) (mck x15 o26_0_8 ck10))], .map r6 (o26_0_8.map fun p : aK × Int => ((fun a : aK => Value.agg ((aS a).map cH).toArray) p.1, (fun v : Int => AV.d (.lit (.int .i64 v))) p.2)) bs9 ck10), ([], .map r7 (o27_0_8.map fun p : aI × aK => ((fun a : aI => Value.agg ((aT a).map cH).toArray) p.1, (fun v : aK => AV.agg (aS v)) p.2)) bs11 ck12), ([], .box b17 0 (aS x15))], ?_, ?_⟩
     · exact ⟨by kernel_rfl, by kernel_rfl, by kernel_rfl, fun _ => by kernel_rfl, fun _ => by kernel_rfl, fun _ => by kernel_rfl, fun _ => rfl, [([], [4]), ([], [4]), ([0, 1], []), ([2], []), ([0, 1], []), ([4], [])], by kernel_rfl, ⟨fun X19 S hw hi hS => bH (X := X19) rfl (hw X19) rfl (aJ rfl (aD (v := .d (.lit (.map (some r6)))) (aA rfl) (aB hS rfl) rfl)),
      fun X19 S hw hi hS => bH (X := X19) rfl (hw X19) rfl (aJ rfl (bN (aA rfl) (aB hS rfl) (i := 5) (og hS rfl rfl) jM (es := (aS x15)) rfl rfl)),
      fun X19 S hw hi hS => bH (X := X19) rfl (hw X19) rfl (aJ rfl (aGh (av := (fun v : Int => AV.d (.lit (.int .i64 v)))) (l := o26_0_8) (z := 0) (a := x15) (m := 3) (aA rfl) aFe Try.underlying175 Try.zeroValue3 (fun _ _ => .d (.lit _ rfl)) (aB hS rfl) (og2 rfl) rfl (aB hS rfl) (kU (enc := aS) x15 rfl))),
      fun X19 S hw hi hS => bH (X := X19) rfl (hw X19) rfl (aJ rfl (bT (aA rfl) (aB hS rfl) rfl rfl)),
      fun X19 S hw hi hS => xY (X := X19) (p := 3) hS rfl rfl rfl (hw X19) rfl rfl rfl (iL (aEt (av := (fun v : Int => AV.d (.lit (.int .i64 v)))) (l := o26_0_8) (z := 0) (a := x15) (m := 3) (aA rfl) aFe Try.underlying175 Try.zeroValue3 (fun _ _ => .d (.lit _ rfl)) (aB hS rfl) (og hS rfl rfl) rfl (aB hS rfl) (kU (enc := aS) x15 rfl)) (by rintro _ rfl; exact Ent.refl _)),
      fun X19 S hw hi hS => bH (X := X19) rfl (hw X19) rfl (aJ rfl (cD (aA rfl) (aB hS rfl) rfl)), trivial⟩⟩
     · exact fun X19 => dE (aU rfl (aU rfl (aU rfl (bC ⟨rfl, rfl, rfl, rfl, rfl, rfl, trivial⟩))))
    ·intro X19
     refine tr1 rfl (zP (kv := (fun a : aK => Value.agg ((aS a).map cH).toArray)) (av := (fun v : Int => AV.d (.lit (.int .i64 v)))) (l := o26_0_8) (z := 0) (v := w64 ((dK x15 0 o26_0_8) + 1)) (a := x15) (m := 3) rfl rfl rfl rfl rfl) ?_
     refine aG ?_
     refine dA ?_
     refine .inl ⟨rfl, ?_⟩
     refine aC ?_
     refine tr1 rfl (bT (aA rfl) rfl rfl rfl) ?_
     refine tr1 rfl (aD (v := .d (.lit (.int .i64 ((w64 (t30_0_8 + 1)))))) (aA rfl) rfl rfl) ?_
     refine aG ?_
     exact ⟨(w64 (t30_0_8 + 1), (fH x15 (w64 ((dK x15 0 o26_0_8) + 1)) o26_0_8), o27_0_8, (mbs x15 o26_0_8 bs9 ck10), (mck x15 o26_0_8 ck10), bs11, ck12), h, bE [0, 1, 2, 3, 4] rfl rfl (aU rfl (bC ⟨rfl, rfl, rfl, rfl, rfl, trivial⟩))⟩
   ·have h := jD c18 h
    refine bX ?_
    refine aF ?_
    refine aC ?_
    refine tr1 rfl (aN (aA rfl) rfl lO) ?_
    refine tr1 rfl (aR (aA rfl) rfl (i := 5) rfl rfl bL) ?_
    refine tr1 rfl (aN (aA rfl) rfl jA) ?_
    refine tr1 rfl (aR (aA rfl) rfl (i := 5) rfl rfl bL) ?_
    refine tr1 rfl (eA (aA rfl) uY (zs := [.lit (.int .i64 0), .lit (.int .i64 0)]) rfl rfl rfl rfl (es := [.lit (.int .i64 x15.Round), .lit (.int .i64 x15.Place)]) rfl) ?_
    refine cE rfl (dM (zs := [.lit (.int .i64 0), .lit (.int .i64 0)]) (aA rfl) Try.zeroValue112 rfl rfl) ?_
    rintro _ ⟨b20, rfl⟩
    refine tr1 rfl (cM (i := 6) rfl rfl rfl rfl rfl Try.sizeOf112 rfl (aA rfl) (Nat.le_of_ble_eq_true rfl) (ds' := (aT (aI.mk x15.Round x15.Place))) rfl) ?_
    refine aG ?_
    refine aF ?_
    refine aF ?_
    refine aC ?_
    refine tr1 rfl (aD (v := .d (.lit (.map (some r7)))) (aA rfl) rfl rfl) ?_
    refine tr1 rfl (bN (aA rfl) rfl (i := 6) rfl jZ (es := (aT (aI.mk x15.Round x15.Place))) rfl rfl) ?_
    refine tr1 rfl (aEs (av := (fun v : aK => AV.agg (aS v))) (l := o27_0_8) (z := (aK.mk 0 0 0 0 0)) (a := (aI.mk x15.Round x15.Place)) (m := 4) (aA rfl) uW Try.underlying176 Try.zeroValue141 (fun _ _ => .agg (aAr rfl)) rfl rfl rfl rfl (kU (enc := aT) (aI.mk x15.Round x15.Place) rfl)) ?_
    refine tr1 rfl (aD (v := .tup [.agg (aS (dK (aI.mk x15.Round x15.Place) (aK.mk 0 0 0 0 0) o27_0_8)), .d (.lit (.bool ((eF (aI.mk x15.Round x15.Place) o27_0_8))))]) (aA rfl) rfl rfl) ?_
    refine tr1 rfl (cD (aA rfl) rfl rfl) ?_
    refine tr1 rfl (cD (aA rfl) rfl rfl) ?_
    refine cE rfl (dM (zs := [.lit (.int .i64 0), .lit (.int .i64 0), .lit (.int .i64 0), .lit (.int .i64 0), .lit (.int .i64 0)]) (aA rfl) Try.zeroValue141 rfl rfl) ?_
    rintro _ ⟨b21, rfl⟩
    refine tr1 rfl (cM (i := 7) rfl rfl rfl rfl rfl Try.sizeOf141 rfl (aA rfl) (Nat.le_of_ble_eq_true rfl) (ds' := (aS (dK (aI.mk x15.Round x15.Place) (aK.mk 0 0 0 0 0) o27_0_8))) rfl) ?_
    refine tr1 rfl (aH (v := .d (.lit (.bool ((eF (aI.mk x15.Round x15.Place) o27_0_8))))) (aA rfl) rfl rfl) ?_
    refine aG ?_
    refine aF ?_
    refine aC ?_
    refine tr1 rfl (aD (v := .d (.lit (.bool ((eF (aI.mk x15.Round x15.Place) o27_0_8))))) (aA rfl) rfl rfl) ?_
    refine tr1 rfl (aD (v := .d (.lit (.bool ((eF (aI.mk x15.Round x15.Place) o27_0_8))))) (aA rfl) rfl rfl) ?_
    obtain ⟨b22, h23, h⟩ := jF h
    refine cS 4 [6, 7, 8, 10, 11, 28, 29, 30] 59 b22 ?_ ?_
    ·refine bY (eF (aI.mk x15.Round x15.Place) o27_0_8) (fun c25 => ?_) (fun c25 => ?_)
     ·have h23 := aX c25 h23
      refine aM rfl rfl (aA rfl) rfl c25 (bN (aA rfl) rfl (i := 7) rfl jM (es := (aS (dK (aI.mk x15.Round x15.Place) (aK.mk 0 0 0 0 0) o27_0_8))) rfl rfl) ?_
      refine aM rfl rfl (aA rfl) rfl c25 (bN (aA rfl) rfl (i := 5) rfl jM (es := (aS x15)) rfl rfl) ?_
      refine aM rfl rfl (aA rfl) rfl c25 (uP (a := (dK (aI.mk x15.Round x15.Place) (aK.mk 0 0 0 0 0) o27_0_8)) (b := x15) (aA rfl) rfl rfl rfl rfl Try.eqGuardType141 aFc) ?_
      refine tr1 rfl (cC (v := .d (.lit (.bool ((!decide ((dK (aI.mk x15.Round x15.Place) (aK.mk 0 0 0 0 0) o27_0_8) = x15)))))) (aA rfl) rfl c25 rfl rfl) ?_
      have h23 := Option.some.inj h23
      subst h23
      refine aG (bM rfl ⟨rfl, rfl, rfl, rfl, rfl, rfl, rfl, rfl, trivial⟩ rfl)
     ·have h23 := aY c25 h23
      refine aO rfl rfl (aA rfl) rfl (aA rfl) rfl c25 ?_
      refine aO rfl rfl (aA rfl) rfl (aA rfl) rfl c25 ?_
      refine aO rfl rfl (aA rfl) rfl (aA rfl) rfl c25 ?_
      refine tr1 rfl (cB (v := .d (.lit (.bool false))) (aA rfl) rfl c25 rfl rfl) ?_
      have h23 := Option.some.inj h23
      subst h23
      refine aG (bM rfl ⟨rfl, rfl, rfl, rfl, rfl, rfl, rfl, rfl, trivial⟩ rfl)
    ·refine aG ?_
     refine cA rfl (fun c24 => ?_) (fun c24 => ?_)
     ·have h := jE c24 h
      refine aF ?_
      refine aC ?_
      refine tr1 rfl (aH (v := eO cK (none : Option cJ)) (aA rfl) rfl rfl) ?_
      refine tr1 rfl (aH (v := .d (.lit (.bool false))) (aA rfl) rfl rfl) ?_
      refine aG ?_
      exact bU ⟨rfl, _, [], [.arr (X2 3).v 3 1 (r3.map aP), .map (X2 4).b (([] : List (aI × Int)).map fun p : aI × Int => ((fun a : aI => Value.agg ((aT a).map cH).toArray) p.1, (fun v : Int => AV.d (.lit (.int .i64 v))) p.2)) ([]) 0, .box b5 0 [.lit (.int .i64 t_0.Rounds), .sl 1 (t_0.Slots.map aP), .lit (X2 3).v, .lit (.map (some (X2 4).b))], .map r6 (o26_0_8.map fun p : aK × Int => ((fun a : aK => Value.agg ((aS a).map cH).toArray) p.1, (fun v : Int => AV.d (.lit (.int .i64 v))) p.2)) bs9 ck10, .map r7 (o27_0_8.map fun p : aI × aK => ((fun a : aI => Value.agg ((aT a).map cH).toArray) p.1, (fun v : aK => AV.agg (aS v)) p.2)) bs11 ck12, .box b17 0 (aS x15), .box b20 0 (aT (aI.mk x15.Round x15.Place)), .box b21 0 (aS (dK (aI.mk x15.Round x15.Place) (aK.mk 0 0 0 0 0) o27_0_8))], _, .two (.tmp 4 (v := eO cK (none : Option cJ)) rfl) (.tmp 5 (v := .d (.lit (.bool false))) rfl), .refl _, .same _, ((none : Option cJ), false), h, rfl, rfl⟩
     ·have h := jD c24 h
      refine bX ?_
      refine aC ?_
      refine tr1 rfl (aD (v := .d (.lit (.map (some r7)))) (aA rfl) rfl rfl) ?_
      refine tr1 rfl (bN (aA rfl) rfl (i := 6) rfl jZ (es := (aT (aI.mk x15.Round x15.Place))) rfl rfl) ?_
      refine tr1 rfl (bN (aA rfl) rfl (i := 5) rfl jM (es := (aS x15)) rfl rfl) ?_
      refine tr1 rfl (wZ (av := (fun v : aK => AV.agg (aS v))) (l := o27_0_8) (v := x15) (a := (aI.mk x15.Round x15.Place)) (m := 4) uW Try.underlying176 rfl rfl rfl rfl (kU (enc := aT) (aI.mk x15.Round x15.Place) rfl) rfl rfl) ?_
      refine fB ?_
      refine aC ?_
      refine tr1 rfl (bT (aA rfl) rfl rfl rfl) ?_
      refine tr1 rfl (aD (v := .d (.lit (.int .i64 ((w64 (t30_0_8 + 1)))))) (aA rfl) rfl rfl) ?_
      refine aG ?_
      exact ⟨(w64 (t30_0_8 + 1), o26_0_8, (fH (aI.mk x15.Round x15.Place) x15 o27_0_8), bs9, ck10, (mbs (aI.mk x15.Round x15.Place) o27_0_8 bs11 ck12), (mck (aI.mk x15.Round x15.Place) o27_0_8 ck12)), h, bE [0, 1, 2, 3, 4] rfl rfl (aU rfl (bC ⟨rfl, rfl, rfl, rfl, rfl, trivial⟩))⟩
  ·have h := jD c14 h
   refine dA ?_
   refine .inl ⟨rfl, ?_⟩
   simp only [oR] at h
   refine aF ?_
   refine aF ?_
   refine aC ?_
   refine tr1 rfl (aD (v := .bp b5 0 0) (aA rfl) rfl rfl) ?_
   refine tr1 rfl (aD (v := .d (.lit (.map (some r6)))) (aA rfl) rfl rfl) ?_
   refine kH (bE [2, 0, 3, 1, 4] rfl rfl (le_refl _)) ?_
   refine cE rfl (nF (passed := [.box b5 0 [.lit (.int .i64 t_0.Rounds), .sl 1 (t_0.Slots.map aP), .lit (X2 3).v, .lit (.map (some (X2 4).b))], .arr (X2 3).v 3 1 (r3.map aP), .map r6 (o26_0_8.map fun p : aK × Int => ((fun a : aK => Value.agg ((aS a).map cH).toArray) p.1, (fun v : Int => AV.d (.lit (.int .i64 v))) p.2)) bs9 ck10]) (aA rfl) rfl (.func _ _ Try.call123) rfl rfl (wV t_0 r3 o26_0_8 h)) ?_
   rintro _ ⟨_, _, ⟨r26, bs27, ck28, h, rfl, rfl⟩, rfl⟩
   refine tr1 rfl (dZ (aA rfl) rfl) ?_
   refine aG ?_
   refine cA rfl (fun c29 => ?_) (fun c29 => ?_)
   ·have h := jE c29 h
    refine aF ?_
    refine aC ?_
    refine tr1 rfl (aH (v := eO cK (none : Option cJ)) (aA rfl) rfl rfl) ?_
    refine tr1 rfl (aH (v := .d (.lit (.bool false))) (aA rfl) rfl rfl) ?_
    refine aG ?_
    exact bU ⟨rfl, _, [], [.box b5 0 [.lit (.int .i64 t_0.Rounds), .sl 1 (t_0.Slots.map aP), .lit (X2 3).v, .lit (.map (some (X2 4).b))], .arr (X2 3).v 3 1 (r26.2.1.map aP), .map r6 (r26.2.2.map fun p : aK × Int => ((fun a : aK => Value.agg ((aS a).map cH).toArray) p.1, (fun v : Int => AV.d (.lit (.int .i64 v))) p.2)) bs27 ck28, .map (X2 4).b (([] : List (aI × Int)).map fun p : aI × Int => ((fun a : aI => Value.agg ((aT a).map cH).toArray) p.1, (fun v : Int => AV.d (.lit (.int .i64 v))) p.2)) ([]) 0, .map r7 (o27_0_8.map fun p : aI × aK => ((fun a : aI => Value.agg ((aT a).map cH).toArray) p.1, (fun v : aK => AV.agg (aS v)) p.2)) bs11 ck12], _, .two (.tmp 4 (v := eO cK (none : Option cJ)) rfl) (.tmp 5 (v := .d (.lit (.bool false))) rfl), .refl _, .same _, ((none : Option cJ), false), h, rfl, rfl⟩
   ·have h := jD c29 h
    refine bX ?_
    refine aF ?_
    refine aF ?_
    refine aC ?_
    refine tr1 rfl (aD (v := .bp b5 0 0) (aA rfl) rfl rfl) ?_
    refine tr1 rfl (iR (aA rfl) rfl) ?_
    refine tr1 rfl (aN (aA rfl) rfl oN) ?_
    refine tr1 rfl (aR (aA rfl) rfl (i := 0) rfl rfl dF) ?_
    refine tr1 rfl (kN (m := 1) (aA rfl) rfl rfl cT.of) ?_
    refine tr1 rfl (aD (v := .d (.lit (.int .i64 0))) (aA rfl) rfl rfl) ?_
    refine aG ?_
    refine cO ?_
    refine tH [6, 8, 71, 72] (fun (s30 : Int × (List (aI × Int)) × (List Nat) × Nat) => [(73, .d (.lit (.int .i64 s30.1)))]) (fun (s30 : Int × (List (aI × Int)) × (List Nat) × Nat) => [.arr (X2 3).v 3 1 (r26.2.1.map aP), .map (X2 4).b (s30.2.1.map fun p : aI × Int => ((fun a : aI => Value.agg ((aT a).map cH).toArray) p.1, (fun v : Int => AV.d (.lit (.int .i64 v))) p.2)) s30.2.2.1 s30.2.2.2, .box b5 0 [.lit (.int .i64 t_0.Rounds), .sl 1 (t_0.Slots.map aP), .lit (X2 3).v, .lit (.map (some (X2 4).b))], .map r7 (o27_0_8.map fun p : aI × aK => ((fun a : aI => Value.agg ((aT a).map cH).toArray) p.1, (fun v : aK => AV.agg (aS v)) p.2)) bs11 ck12]) (fun (k : Nat) (s30 : Int × (List (aI × Int)) × (List Nat) × Nat) => hZ Q (r26.2.1.length : Int) r26.2.1 t_0 o27_0_8 k s30.1 s30.2.1) (fun _ h => h) (0, ([] : List (aI × Int)), [], 0) h (bE [1, 3, 0, 4] rfl rfl (aU rfl (bC ⟨rfl, rfl, rfl, rfl, trivial⟩))) ?_
    rintro k33 ⟨t73_2_30, o23_2_30, bs31, ck32⟩ h
    simp only [hZ] at h
    refine aF ?_
    refine aC ?_
    refine tr1 rfl (bR (aA rfl) rfl rfl rfl) ?_
    refine aG ?_
    refine aF ?_
    refine cA rfl (fun c34 => ?_) (fun c34 => ?_)
    ·have h := jE c34 h
     refine bX ?_
     refine aF ?_
     refine cO ?_
     refine aF ?_
     refine aC ?_
     refine tr1 rfl (aD (v := .d (.lit (.int .i64 t73_2_30))) (aA rfl) rfl rfl) ?_
     obtain ⟨x35, h36, h⟩ := jF h
     refine tr1 rfl (eG (m := 0) (aA rfl) rfl rfl rfl cT.of (bP aP h36)) ?_
     refine tr1 rfl (iK (aA rfl) rfl (m := 0) rfl (jU aP h36) rfl bL) ?_
     refine tr1 rfl (aH (v := .d (.lit (.int .i64 t73_2_30))) (aA rfl) rfl rfl) ?_
     refine tr1 rfl (aH (v := .d (.lit (.int .i64 x35))) (aA rfl) rfl rfl) ?_
     refine aG ?_
     refine aF ?_
     refine aC ?_
     refine tr1 rfl (aD (v := .d (.lit (.int .i64 x35))) (aA rfl) rfl rfl) ?_
     refine tr1 rfl (bR (aA rfl) rfl rfl rfl) ?_
     refine aG ?_
     refine cA rfl (fun c37 => ?_) (fun c37 => ?_)
     ·have h := jE c37 h
      refine aC ?_
      refine tr1 rfl (aD (v := .bp b5 0 0) (aA rfl) rfl rfl) ?_
      refine tr1 rfl (aD (v := .d (.lit (.int .i64 t73_2_30))) (aA rfl) rfl rfl) ?_
      refine tr1 rfl (aBj (aA rfl) rfl rfl (.inr (.inr ⟨rfl, rfl⟩))) ?_
      obtain ⟨r38, h39, h⟩ := jF h
      refine kH (bE [2, 0, 1, 3] rfl rfl (le_refl _)) ?_
      refine cE rfl (nF (passed := [.box b5 0 [.lit (.int .i64 t_0.Rounds), .sl 1 (t_0.Slots.map aP), .lit (X2 3).v, .lit (.map (some (X2 4).b))], .arr (X2 3).v 3 1 (r26.2.1.map aP), .map (X2 4).b (o23_2_30.map fun p : aI × Int => ((fun a : aI => Value.agg ((aT a).map cH).toArray) p.1, (fun v : Int => AV.d (.lit (.int .i64 v))) p.2)) bs31 ck32]) (aA rfl) rfl (.func _ _ Try.call124) rfl rfl (sU t_0 r26.2.1 o23_2_30 (aGx t73_2_30 1) 0 h39)) ?_
      rintro _ ⟨_, _, ⟨bs40, ck41, rfl, rfl⟩, rfl⟩
      refine fB ?_
      refine aC ?_
      refine tr1 rfl (bT (aA rfl) rfl rfl rfl) ?_
      refine tr1 rfl (aD (v := .d (.lit (.int .i64 ((w64 (t73_2_30 + 1)))))) (aA rfl) rfl rfl) ?_
      refine aG ?_
      exact ⟨(w64 (t73_2_30 + 1), r38.2, bs40, ck41), h, bE [1, 2, 0, 3] rfl rfl (aU rfl (bC ⟨rfl, rfl, rfl, rfl, trivial⟩))⟩
     ·have h := jD c37 h
      refine dY ?_
      refine aC ?_
      refine tr1 rfl (bT (aA rfl) rfl rfl rfl) ?_
      refine tr1 rfl (aD (v := .d (.lit (.int .i64 ((w64 (t73_2_30 + 1)))))) (aA rfl) rfl rfl) ?_
      refine aG ?_
      exact ⟨(w64 (t73_2_30 + 1), o23_2_30, bs31, ck32), h, bE [0, 1, 2, 3] rfl rfl (aU rfl (bC ⟨rfl, rfl, rfl, rfl, trivial⟩))⟩
    ·have h := jD c34 h
     refine dA ?_
     refine .inl ⟨rfl, ?_⟩
     simp only [oS] at h
     refine aF ?_
     refine aF ?_
     refine aC ?_
     refine tr1 rfl (aD (v := .d (.lit (.map (some r7)))) (aA rfl) rfl rfl) ?_
     refine cE rfl (aJo (m := 3) (aA rfl) Try.underlying176 rfl rfl) ?_
     rintro _ ⟨q42, h44, rfl⟩
     have h := aAw h h44
     refine aG ?_
     refine cO ?_
     refine tH [6, 86] (fun (s45 : (List (aI × Int)) × (List Nat) × Nat × (List Nat)) => []) (fun (s45 : (List (aI × Int)) × (List Nat) × Nat × (List Nat)) => [.arr (X2 3).v 3 1 (r26.2.1.map aP), .map (X2 4).b (s45.1.map fun p : aI × Int => ((fun a : aI => Value.agg ((aT a).map cH).toArray) p.1, (fun v : Int => AV.d (.lit (.int .i64 v))) p.2)) s45.2.1 s45.2.2.1, .box b5 0 [.lit (.int .i64 t_0.Rounds), .sl 1 (t_0.Slots.map aP), .lit (X2 3).v, .lit (.map (some (X2 4).b))], .map r7 (o27_0_8.map fun p : aI × aK => ((fun a : aI => Value.agg ((aT a).map cH).toArray) p.1, (fun v : aK => AV.agg (aS v)) p.2)) bs11 ck12, .iter q42 r7 ck12 s45.2.2.2 ck12]) (fun (k : Nat) (s45 : (List (aI × Int)) × (List Nat) × Nat × (List Nat)) => jV Q r26.2.1 t_0 o27_0_8 k s45.1 (lV o27_0_8 bs11 s45.2.2.2)) (fun _ h => h) (o23_2_30, bs31, ck32, []) h (bE [0, 1, 2, 3, 4] rfl rfl (bC ⟨rfl, rfl, trivial⟩)) ?_
     rintro k49 ⟨o23_4_45, bs46, ck47, seen48⟩ h
     simp only [jV] at h
     refine aF ?_
     refine aC ?_
     refine cE rfl (aMg (kv := (fun a : aI => Value.agg ((aT a).map cH).toArray)) (av := (fun v : aK => AV.agg (aS v))) (l := o27_0_8) (mi := 4) (mm := 3) (aA rfl) rfl rfl rfl) ?_
     rintro _ (⟨h54, rfl⟩ | ⟨j51, b52, p50, h53, rfl⟩)
     ·have h := h.1 h54
      refine tr1 rfl (cD (aA rfl) rfl rfl) ?_
      refine aG ?_
      refine aF ?_
      refine cA rfl (fun c55 => ?_) (fun c55 => ?_)
      ·exact absurd c55 (by decide)
      ·refine dA ?_
       refine .inl ⟨rfl, ?_⟩
       simp only [rG] at h
       refine aF ?_
       refine aC ?_
       refine tr1 rfl (aD (v := .bp b5 0 0) (aA rfl) rfl rfl) ?_
       refine tr1 rfl (aH (v := .bp b5 0 0) (aA rfl) rfl rfl) ?_
       refine tr1 rfl (aH (v := .d (.lit (.bool true))) (aA rfl) rfl rfl) ?_
       refine aG ?_
       exact bU ⟨rfl, _, [], [.arr (X2 3).v 3 1 (r26.2.1.map aP), .map (X2 4).b (o23_4_45.map fun p : aI × Int => ((fun a : aI => Value.agg ((aT a).map cH).toArray) p.1, (fun v : Int => AV.d (.lit (.int .i64 v))) p.2)) bs46 ck47, .box b5 0 [.lit (.int .i64 t_0.Rounds), .sl 1 (t_0.Slots.map aP), .lit (X2 3).v, .lit (.map (some (X2 4).b))], .map r7 (o27_0_8.map fun p : aI × aK => ((fun a : aI => Value.agg ((aT a).map cH).toArray) p.1, (fun v : aK => AV.agg (aS v)) p.2)) bs11 ck12, .iter q42 r7 ck12 seen48 ck12], _, .two (.tmp 4 (v := .bp b5 0 0) rfl) (.tmp 5 (v := .d (.lit (.bool true))) rfl), .refl _, aGz (.cons ((tK 2 rfl rfl (dvc (.same _) (dvc (.same _) (dvc (gQ 0 rfl (dD (f := aP) fun _ => rfl)) (dvc (aQb (kv := (fun a : aI => Value.agg ((aT a).map cH).toArray)) (av := (fun v : Int => AV.d (.lit (.int .i64 v)))) (l := o23_4_45) (enc := aP) (agg := false) 1 rfl (fun _ _ => rfl) (fun _ => rfl)) dvn)))))) (.cons (.same _) .nil)), ((some (cJ.mk t_0 r26.2.1 o23_4_45)), true), h, rfl, rfl⟩
     ·have h := aCj h h53
      refine tr1 rfl (cD (aA rfl) rfl rfl) ?_
      refine aG ?_
      refine aF ?_
      refine cA rfl (fun c72 => ?_) (fun c72 => ?_)
      ·refine bX ?_
       refine cO ?_
       refine aF ?_
       refine aC ?_
       refine tr1 rfl (aJm (kv := (fun a : aI => Value.agg ((aT a).map cH).toArray)) (av := (fun v : aK => AV.agg (aS v))) (l := o27_0_8) (mi := 4) (mm := 3) (ka := .agg (aT p50.1)) (aA rfl) rfl rfl rfl h53 (fun _ _ => .agg (aAr rfl))) ?_
       refine tr1 rfl (cD (aA rfl) rfl rfl) ?_
       refine tr1 rfl (cD (aA rfl) rfl rfl) ?_
       refine cE rfl (dM (zs := [.lit (.int .i64 0), .lit (.int .i64 0)]) (aA rfl) Try.zeroValue112 rfl rfl) ?_
       rintro _ ⟨b56, rfl⟩
       refine cE rfl (dM (zs := [.lit (.int .i64 0), .lit (.int .i64 0), .lit (.int .i64 0), .lit (.int .i64 0), .lit (.int .i64 0)]) (aA rfl) Try.zeroValue141 rfl rfl) ?_
       rintro _ ⟨b57, rfl⟩
       refine tr1 rfl (cM (i := 5) rfl rfl rfl rfl rfl Try.sizeOf112 rfl (aA rfl) (Nat.le_of_ble_eq_true rfl) (ds' := (aT p50.1)) rfl) ?_
       refine tr1 rfl (cM (i := 6) rfl rfl rfl rfl rfl Try.sizeOf141 rfl (aA rfl) (Nat.le_of_ble_eq_true rfl) (ds' := (aS p50.2)) rfl) ?_
       refine aG ?_
       refine aF ?_
       refine eD mix 6 [6, 16, 86] [(95, .d (.lit (X2 3).v)), (97, .d (.lit (.int .i64 p50.2.Player)))] ?_ ?_
       ·refine ⟨[(92, 0, .bp b5 0 0), (93, 1, .bp b5 0 0), (94, 2, .bp b5 0 2), (95, 3, .d (.lit (X2 3).v)), (96, 4, .bp b57 0 3), (97, 5, .d (.lit (.int .i64 p50.2.Player)))], ?_, ?_⟩
        · exact ⟨by kernel_rfl, by kernel_rfl, by kernel_rfl, by kernel_rfl, by kernel_rfl, [([], []), ([0], []), ([1], []), ([2], []), ([], []), ([4], [])], by kernel_rfl, ⟨fun S hS => aE rfl (aJ rfl (aD (v := .bp b5 0 0) (aA rfl) (aB hS rfl) rfl)),
      fun S hS => aE rfl (aJ rfl (iR (aA rfl) (aB hS rfl))),
      fun S hS => aE rfl (aJ rfl (aN (aA rfl) (aB hS rfl) oN)),
      fun S hS => aE rfl (aJ rfl (aR (aA rfl) (aB hS rfl) (i := 2) rfl rfl dF)),
      fun S hS => aE rfl (aJ rfl (aN (aA rfl) (aB hS rfl) mG)),
      fun S hS => aE rfl (aJ rfl (aR (aA rfl) (aB hS rfl) (i := 6) rfl rfl bL)), trivial⟩⟩
        · exact dE (aU rfl (aU rfl (bC ⟨rfl, rfl, rfl, trivial⟩)))
       ·obtain ⟨r58, h59, h⟩ := jF h
        refine tr1 rfl (cL (aA rfl) (.func _ _ Try.call90) rfl rfl (.cons (.d (gQ 0 rfl (dD (f := aP) fun _ => rfl))) (.cons (.same _) .nil)) (uG _ _ h59) rfl) ?_
        refine tr1 rfl (aH (v := .d (.lit (.int .i64 r58))) (aA rfl) rfl rfl) ?_
        refine aG ?_
        refine aF ?_
        obtain ⟨b60, h61, h⟩ := jF h
        refine bY (b60) (fun c65 => ?_) (fun c65 => ?_)
        ·have h := jE c65 h
         refine eD mix 15 [6, 86] [(109, .d (.lit (.bool b60)))] ?_ ?_
         ·refine bY (decide (r58 < 0)) (fun c62 => ?_) (fun c62 => ?_)
          ·have h61 := aX c62 h61
           have h61 := Option.some.inj h61
           subst h61
           refine ⟨[(99, 0, .d (.lit (.int .i64 r58))), (100, 1, .d (.lit (.bool ((decide (r58 < 0)))))), (101, 2, .d (.lit (.bool ((decide (r58 < 0)))))), (102, 3, .tup []), (103, 4, .tup []), (104, 5, .tup []), (105, 6, .tup []), (106, 7, .tup []), (107, 8, .tup []), (108, 9, .d (.lit (.bool true))), (109, 10, .d (.lit (.bool (true)))), (110, 11, .tup []), (111, 12, .tup []), (112, 13, .tup []), (113, 14, .tup [])], ?_, ?_⟩
           · exact ⟨by kernel_rfl, by kernel_rfl, by kernel_rfl, by kernel_rfl, by kernel_rfl, [([], []), ([0], []), ([1], []), ([2], []), ([2, 3], []), ([2], []), ([2, 4, 5], []), ([2], []), ([2, 6, 7], []), ([2, 8], []), ([9], []), ([10], []), ([10], []), ([10], []), ([10, 13], [])], by kernel_rfl, ⟨fun S hS => aE rfl (aJ rfl (aD (v := .d (.lit (.int .i64 r58))) (aA rfl) (aB hS rfl) rfl)),
      fun S hS => aE rfl (aJ rfl (bR (aA rfl) (aB hS rfl) rfl rfl)),
      fun S hS => aE rfl (aJ rfl (aD (v := .d (.lit (.bool ((decide (r58 < 0)))))) (aA rfl) (aB hS rfl) rfl)),
      fun S hS => aE rfl (aZ rfl rfl (aA rfl) rfl (aA rfl) (aL hS rfl) c62),
      fun S hS => aE rfl (aZ rfl rfl (aA rfl) rfl (aA rfl) (aL hS rfl) c62),
      fun S hS => aE rfl (aZ rfl rfl (aA rfl) rfl (aA rfl) (aL hS rfl) c62),
      fun S hS => aE rfl (aZ rfl rfl (aA rfl) rfl (aA rfl) (aL hS rfl) c62),
      fun S hS => aE rfl (aZ rfl rfl (aA rfl) rfl (aA rfl) (aL hS rfl) c62),
      fun S hS => aE rfl (aZ rfl rfl (aA rfl) rfl (aA rfl) (aL hS rfl) c62),
      fun S hS => aE rfl (aJ rfl (cC (v := .d (.lit (.bool true))) (aA rfl) (aB hS rfl) c62 rfl rfl)),
      fun S hS => aE rfl (aJ rfl (aD (v := .d (.lit (.bool (true)))) (aA rfl) (aB hS rfl) rfl)),
      fun S hS => aE rfl (aZ rfl rfl (aA rfl) rfl (aA rfl) (aL hS rfl) c65),
      fun S hS => aE rfl (aZ rfl rfl (aA rfl) rfl (aA rfl) (aL hS rfl) c65),
      fun S hS => aE rfl (aZ rfl rfl (aA rfl) rfl (aA rfl) (aL hS rfl) c65),
      fun S hS => aE rfl (aZ rfl rfl (aA rfl) rfl (aA rfl) (aL hS rfl) c65), trivial⟩⟩
           · exact dE (aU rfl (bC ⟨rfl, rfl, trivial⟩))
          ·have h61 := aY c62 h61
           obtain ⟨r63, h64, h61⟩ := bind_some h61
           have h61 := Option.some.inj h61
           subst h61
           refine ⟨[(99, 0, .d (.lit (.int .i64 r58))), (100, 1, .d (.lit (.bool ((decide (r58 < 0)))))), (101, 2, .d (.lit (.bool ((decide (r58 < 0)))))), (102, 3, .bp b56 0 0), (103, 4, .d (.lit (.int .i64 p50.1.round))), (104, 5, .d (.lit (.int .i64 r58))), (105, 6, .agg (aT r63)), (106, 7, .agg (aT p50.1)), (107, 8, .d (.lit (.bool ((!decide (r63 = p50.1)))))), (108, 9, .d (.lit (.bool ((!decide (r63 = p50.1)))))), (109, 10, .d (.lit (.bool (!decide (r63 = p50.1))))), (110, 11, .tup []), (111, 12, .tup []), (112, 13, .tup []), (113, 14, .tup [])], ?_, ?_⟩
           · exact ⟨by kernel_rfl, by kernel_rfl, by kernel_rfl, by kernel_rfl, by kernel_rfl, [([], []), ([0], []), ([1], []), ([2], []), ([2, 3], []), ([2], []), ([2, 4, 5], []), ([2], []), ([2, 6, 7], []), ([2, 8], []), ([9], []), ([10], []), ([10], []), ([10], []), ([10, 13], [])], by kernel_rfl, ⟨fun S hS => aE rfl (aJ rfl (aD (v := .d (.lit (.int .i64 r58))) (aA rfl) (aB hS rfl) rfl)),
      fun S hS => aE rfl (aJ rfl (bR (aA rfl) (aB hS rfl) rfl rfl)),
      fun S hS => aE rfl (aJ rfl (aD (v := .d (.lit (.bool ((decide (r58 < 0)))))) (aA rfl) (aB hS rfl) rfl)),
      fun S hS => aE rfl (bA rfl rfl (aA rfl) (aL hS rfl) c62 (aN (aA rfl) (aB hS rfl) nK)),
      fun S hS => aE rfl (bA rfl rfl (aA rfl) (aL hS rfl) c62 (aR (aA rfl) (aB hS rfl) (i := 5) rfl rfl bL)),
      fun S hS => aE rfl (bA rfl rfl (aA rfl) (aL hS rfl) c62 (aD (v := .d (.lit (.int .i64 r58))) (aA rfl) (aB hS rfl) rfl)),
      fun S hS => aE rfl (bA rfl rfl (aA rfl) (aL hS rfl) c62 (fT (aA rfl) (.func _ _ Try.call125) (ev2 (aB hS rfl) (ev2 (aB hS rfl) evn)) rfl (vE _ _ h64))),
      fun S hS => aE rfl (bA rfl rfl (aA rfl) (aL hS rfl) c62 (bN (aA rfl) (aB hS rfl) (i := 5) rfl jZ (es := (aT p50.1)) rfl rfl)),
      fun S hS => aE rfl (bA rfl rfl (aA rfl) (aL hS rfl) c62 (uP (a := r63) (b := p50.1) (aA rfl) (aB hS rfl) (aB hS rfl) rfl rfl Try.eqGuardType112 aFb)),
      fun S hS => aE rfl (aJ rfl (cB (v := .d (.lit (.bool ((!decide (r63 = p50.1)))))) (aA rfl) (aB hS rfl) c62 (aB hS rfl) rfl)),
      fun S hS => aE rfl (aJ rfl (aD (v := .d (.lit (.bool (!decide (r63 = p50.1))))) (aA rfl) (aB hS rfl) rfl)),
      fun S hS => aE rfl (aZ rfl rfl (aA rfl) rfl (aA rfl) (aL hS rfl) c65),
      fun S hS => aE rfl (aZ rfl rfl (aA rfl) rfl (aA rfl) (aL hS rfl) c65),
      fun S hS => aE rfl (aZ rfl rfl (aA rfl) rfl (aA rfl) (aL hS rfl) c65),
      fun S hS => aE rfl (aZ rfl rfl (aA rfl) rfl (aA rfl) (aL hS rfl) c65), trivial⟩⟩
           · exact dE (aU rfl (bC ⟨rfl, rfl, trivial⟩))
         ·refine aO rfl rfl (aA rfl) rfl (aA rfl) rfl c65 ?_
          refine aO rfl rfl (aA rfl) rfl (aA rfl) rfl c65 ?_
          refine tr1 rfl (cC (v := .d (.lit (.bool true))) (aA rfl) rfl c65 rfl rfl) ?_
          refine aG ?_
          refine cA rfl (fun c71 => ?_) (fun c71 => ?_)
          ·refine aF ?_
           refine aC ?_
           refine tr1 rfl (aH (v := eO cK (none : Option cJ)) (aA rfl) rfl rfl) ?_
           refine tr1 rfl (aH (v := .d (.lit (.bool false))) (aA rfl) rfl rfl) ?_
           refine aG ?_
           exact bU ⟨rfl, _, [], [.arr (X2 3).v 3 1 (r26.2.1.map aP), .map (X2 4).b (o23_4_45.map fun p : aI × Int => ((fun a : aI => Value.agg ((aT a).map cH).toArray) p.1, (fun v : Int => AV.d (.lit (.int .i64 v))) p.2)) bs46 ck47, .box b5 0 [.lit (.int .i64 t_0.Rounds), .sl 1 (t_0.Slots.map aP), .lit (X2 3).v, .lit (.map (some (X2 4).b))], .map r7 (o27_0_8.map fun p : aI × aK => ((fun a : aI => Value.agg ((aT a).map cH).toArray) p.1, (fun v : aK => AV.agg (aS v)) p.2)) bs11 ck12, .iter q42 r7 ck12 (seen48 ++ [b52]) ck12, .box b56 0 (aT p50.1), .box b57 0 (aS p50.2)], _, .two (.tmp 4 (v := eO cK (none : Option cJ)) rfl) (.tmp 5 (v := .d (.lit (.bool false))) rfl), .refl _, .same _, ((none : Option cJ), false), h, rfl, rfl⟩
          ·exact absurd c71 (by decide)
        ·have h := jD c65 h
         refine eD mix 15 [6, 86] [(109, .d (.lit (.bool b60))), (110, .bp b5 0 0), (111, .d (.lit (.int .i64 r58))), (112, .bp b56 0 0), (113, .d (.lit (.int .i64 p50.1.round)))] ?_ ?_
         ·refine bY (decide (r58 < 0)) (fun c62 => ?_) (fun c62 => ?_)
          ·have h61 := aX c62 h61
           have h61 := Option.some.inj h61
           subst h61
           refine ⟨[(99, 0, .d (.lit (.int .i64 r58))), (100, 1, .d (.lit (.bool ((decide (r58 < 0)))))), (101, 2, .d (.lit (.bool ((decide (r58 < 0)))))), (102, 3, .tup []), (103, 4, .tup []), (104, 5, .tup []), (105, 6, .tup []), (106, 7, .tup []), (107, 8, .tup []), (108, 9, .d (.lit (.bool true))), (109, 10, .d (.lit (.bool (true)))), (110, 11, .bp b5 0 0), (111, 12, .d (.lit (.int .i64 r58))), (112, 13, .bp b56 0 0), (113, 14, .d (.lit (.int .i64 p50.1.round)))], ?_, ?_⟩
           · exact ⟨by kernel_rfl, by kernel_rfl, by kernel_rfl, by kernel_rfl, by kernel_rfl, [([], []), ([0], []), ([1], []), ([2], []), ([2, 3], []), ([2], []), ([2, 4, 5], []), ([2], []), ([2, 6, 7], []), ([2, 8], []), ([9], []), ([10], []), ([10], []), ([10], []), ([10, 13], [])], by kernel_rfl, ⟨fun S hS => aE rfl (aJ rfl (aD (v := .d (.lit (.int .i64 r58))) (aA rfl) (aB hS rfl) rfl)),
      fun S hS => aE rfl (aJ rfl (bR (aA rfl) (aB hS rfl) rfl rfl)),
      fun S hS => aE rfl (aJ rfl (aD (v := .d (.lit (.bool ((decide (r58 < 0)))))) (aA rfl) (aB hS rfl) rfl)),
      fun S hS => aE rfl (aZ rfl rfl (aA rfl) rfl (aA rfl) (aL hS rfl) c62),
      fun S hS => aE rfl (aZ rfl rfl (aA rfl) rfl (aA rfl) (aL hS rfl) c62),
      fun S hS => aE rfl (aZ rfl rfl (aA rfl) rfl (aA rfl) (aL hS rfl) c62),
      fun S hS => aE rfl (aZ rfl rfl (aA rfl) rfl (aA rfl) (aL hS rfl) c62),
      fun S hS => aE rfl (aZ rfl rfl (aA rfl) rfl (aA rfl) (aL hS rfl) c62),
      fun S hS => aE rfl (aZ rfl rfl (aA rfl) rfl (aA rfl) (aL hS rfl) c62),
      fun S hS => aE rfl (aJ rfl (cC (v := .d (.lit (.bool true))) (aA rfl) (aB hS rfl) c62 rfl rfl)),
      fun S hS => aE rfl (aJ rfl (aD (v := .d (.lit (.bool (true)))) (aA rfl) (aB hS rfl) rfl)),
      fun S hS => aE rfl (bA rfl rfl (aA rfl) (aL hS rfl) c65 (aD (v := .bp b5 0 0) (aA rfl) (aB hS rfl) rfl)),
      fun S hS => aE rfl (bA rfl rfl (aA rfl) (aL hS rfl) c65 (aD (v := .d (.lit (.int .i64 r58))) (aA rfl) (aB hS rfl) rfl)),
      fun S hS => aE rfl (bA rfl rfl (aA rfl) (aL hS rfl) c65 (aN (aA rfl) (aB hS rfl) nK)),
      fun S hS => aE rfl (bA rfl rfl (aA rfl) (aL hS rfl) c65 (aR (aA rfl) (aB hS rfl) (i := 5) rfl rfl bL)), trivial⟩⟩
           · exact dE (aU rfl (aU rfl (aU rfl (aU rfl (aU rfl (bC ⟨rfl, rfl, trivial⟩))))))
          ·have h61 := aY c62 h61
           obtain ⟨r63, h64, h61⟩ := bind_some h61
           have h61 := Option.some.inj h61
           subst h61
           refine ⟨[(99, 0, .d (.lit (.int .i64 r58))), (100, 1, .d (.lit (.bool ((decide (r58 < 0)))))), (101, 2, .d (.lit (.bool ((decide (r58 < 0)))))), (102, 3, .bp b56 0 0), (103, 4, .d (.lit (.int .i64 p50.1.round))), (104, 5, .d (.lit (.int .i64 r58))), (105, 6, .agg (aT r63)), (106, 7, .agg (aT p50.1)), (107, 8, .d (.lit (.bool ((!decide (r63 = p50.1)))))), (108, 9, .d (.lit (.bool ((!decide (r63 = p50.1)))))), (109, 10, .d (.lit (.bool (!decide (r63 = p50.1))))), (110, 11, .bp b5 0 0), (111, 12, .d (.lit (.int .i64 r58))), (112, 13, .bp b56 0 0), (113, 14, .d (.lit (.int .i64 p50.1.round)))], ?_, ?_⟩
           · exact ⟨by kernel_rfl, by kernel_rfl, by kernel_rfl, by kernel_rfl, by kernel_rfl, [([], []), ([0], []), ([1], []), ([2], []), ([2, 3], []), ([2], []), ([2, 4, 5], []), ([2], []), ([2, 6, 7], []), ([2, 8], []), ([9], []), ([10], []), ([10], []), ([10], []), ([10, 13], [])], by kernel_rfl, ⟨fun S hS => aE rfl (aJ rfl (aD (v := .d (.lit (.int .i64 r58))) (aA rfl) (aB hS rfl) rfl)),
      fun S hS => aE rfl (aJ rfl (bR (aA rfl) (aB hS rfl) rfl rfl)),
      fun S hS => aE rfl (aJ rfl (aD (v := .d (.lit (.bool ((decide (r58 < 0)))))) (aA rfl) (aB hS rfl) rfl)),
      fun S hS => aE rfl (bA rfl rfl (aA rfl) (aL hS rfl) c62 (aN (aA rfl) (aB hS rfl) nK)),
      fun S hS => aE rfl (bA rfl rfl (aA rfl) (aL hS rfl) c62 (aR (aA rfl) (aB hS rfl) (i := 5) rfl rfl bL)),
      fun S hS => aE rfl (bA rfl rfl (aA rfl) (aL hS rfl) c62 (aD (v := .d (.lit (.int .i64 r58))) (aA rfl) (aB hS rfl) rfl)),
      fun S hS => aE rfl (bA rfl rfl (aA rfl) (aL hS rfl) c62 (fT (aA rfl) (.func _ _ Try.call125) (ev2 (aB hS rfl) (ev2 (aB hS rfl) evn)) rfl (vE _ _ h64))),
      fun S hS => aE rfl (bA rfl rfl (aA rfl) (aL hS rfl) c62 (bN (aA rfl) (aB hS rfl) (i := 5) rfl jZ (es := (aT p50.1)) rfl rfl)),
      fun S hS => aE rfl (bA rfl rfl (aA rfl) (aL hS rfl) c62 (uP (a := r63) (b := p50.1) (aA rfl) (aB hS rfl) (aB hS rfl) rfl rfl Try.eqGuardType112 aFb)),
      fun S hS => aE rfl (aJ rfl (cB (v := .d (.lit (.bool ((!decide (r63 = p50.1)))))) (aA rfl) (aB hS rfl) c62 (aB hS rfl) rfl)),
      fun S hS => aE rfl (aJ rfl (aD (v := .d (.lit (.bool (!decide (r63 = p50.1))))) (aA rfl) (aB hS rfl) rfl)),
      fun S hS => aE rfl (bA rfl rfl (aA rfl) (aL hS rfl) c65 (aD (v := .bp b5 0 0) (aA rfl) (aB hS rfl) rfl)),
      fun S hS => aE rfl (bA rfl rfl (aA rfl) (aL hS rfl) c65 (aD (v := .d (.lit (.int .i64 r58))) (aA rfl) (aB hS rfl) rfl)),
      fun S hS => aE rfl (bA rfl rfl (aA rfl) (aL hS rfl) c65 (aN (aA rfl) (aB hS rfl) nK)),
      fun S hS => aE rfl (bA rfl rfl (aA rfl) (aL hS rfl) c65 (aR (aA rfl) (aB hS rfl) (i := 5) rfl rfl bL)), trivial⟩⟩
           · exact dE (aU rfl (aU rfl (aU rfl (aU rfl (aU rfl (bC ⟨rfl, rfl, trivial⟩))))))
         ·obtain ⟨r66, h67, h⟩ := jF h
          refine kH (bE [2, 0, 1, 3, 4, 5, 6] rfl rfl (le_refl _)) ?_
          refine aJr rfl rfl (aA rfl) rfl c65 (nF (passed := [.box b5 0 [.lit (.int .i64 t_0.Rounds), .sl 1 (t_0.Slots.map aP), .lit (X2 3).v, .lit (.map (some (X2 4).b))], .arr (X2 3).v 3 1 (r26.2.1.map aP), .map (X2 4).b (o23_4_45.map fun p : aI × Int => ((fun a : aI => Value.agg ((aT a).map cH).toArray) p.1, (fun v : Int => AV.d (.lit (.int .i64 v))) p.2)) bs46 ck47]) (aA rfl) rfl (.func _ _ Try.call124) rfl rfl (sU t_0 r26.2.1 o23_4_45 r58 p50.1.round h67)) ?_
          rintro _ ⟨_, _, ⟨bs68, ck69, rfl, rfl⟩, rfl⟩
          refine aM rfl rfl (aA rfl) rfl c65 (dZ (aA rfl) rfl) ?_
          refine tr1 rfl (cB (v := .d (.lit (.bool (!r66.1)))) (aA rfl) rfl c65 rfl rfl) ?_
          refine aG ?_
          refine cA rfl (fun c70 => ?_) (fun c70 => ?_)
          ·have h := jE c70 h
           refine aF ?_
           refine aC ?_
           refine tr1 rfl (aH (v := eO cK (none : Option cJ)) (aA rfl) rfl rfl) ?_
           refine tr1 rfl (aH (v := .d (.lit (.bool false))) (aA rfl) rfl rfl) ?_
           refine aG ?_
           exact bU ⟨rfl, _, [], [.box b5 0 [.lit (.int .i64 t_0.Rounds), .sl 1 (t_0.Slots.map aP), .lit (X2 3).v, .lit (.map (some (X2 4).b))], .arr (X2 3).v 3 1 (r26.2.1.map aP), .map (X2 4).b (r66.2.map fun p : aI × Int => ((fun a : aI => Value.agg ((aT a).map cH).toArray) p.1, (fun v : Int => AV.d (.lit (.int .i64 v))) p.2)) bs68 ck69, .map r7 (o27_0_8.map fun p : aI × aK => ((fun a : aI => Value.agg ((aT a).map cH).toArray) p.1, (fun v : aK => AV.agg (aS v)) p.2)) bs11 ck12, .iter q42 r7 ck12 (seen48 ++ [b52]) ck12, .box b56 0 (aT p50.1), .box b57 0 (aS p50.2)], _, .two (.tmp 4 (v := eO cK (none : Option cJ)) rfl) (.tmp 5 (v := .d (.lit (.bool false))) rfl), .refl _, .same _, ((none : Option cJ), false), h, rfl, rfl⟩
          ·have h := jD c70 h
           refine dY ?_
           exact ⟨(r66.2, bs68, ck69, (seen48 ++ [b52])), h, bE [1, 2, 0, 3, 4] rfl rfl (bC ⟨rfl, rfl, trivial⟩)⟩
      ·exact absurd c72 (by decide)

theorem xF (t_0 : bD) (l_1 : List aK) {Q : ((Option cJ) × Int) → Prop} (h : lK t_0 l_1 Q) : gF Try.prog 82 [.agg (bG t_0), .d (.sl 5 (l_1.map aS))] [] (fun r' o' => ∃ (r : (Option cJ) × Int), Q r ∧ r' = .tup [eO cK r.1, .d (.lit (.int .i64 r.2))] ∧ o' = []) := by
 unfold lK at h
 refine lH Try.func82 rfl (rs := [.tmp 4, .tmp 5]) Try.results82 Try.ntmps82 (Nat.le_of_ble_eq_true rfl) ?_
 refine aF ?_
 refine aC ?_
 refine cE rfl (eC (v := .agg (bG t_0)) (aA rfl) rfl rfl rfl) ?_
 rintro _ ⟨b1, rfl⟩
 refine tr1 rfl (aH (v := eO cK (none : Option cJ)) (aA rfl) rfl rfl) ?_
 refine tr1 rfl (aH (v := .d (.lit (.int .i64 0))) (aA rfl) rfl rfl) ?_
 refine aG ?_
 refine aF ?_
 refine aF ?_
 refine aC ?_
 refine tr1 rfl (bN (aA rfl) rfl (i := 0) rfl fO (es := (bG t_0)) rfl rfl) ?_
 obtain ⟨r2, h3, h⟩ := jF h
 refine tr1 rfl (cL (aA rfl) (.func _ _ Try.call102) rfl rfl (BVs.refl _ _) (aCw _ h3) rfl) ?_
 refine tr1 rfl (dZ (aA rfl) rfl) ?_
 refine aG ?_
 refine cA rfl (fun c4 => ?_) (fun c4 => ?_)
 ·have h := jE c4 h
  refine aF ?_
  refine aC ?_
  refine tr1 rfl (aH (v := eO cK (none : Option cJ)) (aA rfl) rfl rfl) ?_
  refine tr1 rfl (aH (v := .d (.lit (.int .i64 70))) (aA rfl) rfl rfl) ?_
  refine aG ?_
  exact bU ⟨rfl, _, [], [.box b1 0 (bG t_0)], _, .two (.tmp 4 (v := eO cK (none : Option cJ)) rfl) (.tmp 5 (v := .d (.lit (.int .i64 70))) rfl), .refl _, .same _, ((none : Option cJ), 70), h, rfl, rfl⟩
 ·have h := jD c4 h
  refine bX ?_
  refine aF ?_
  refine aF ?_
  refine aC ?_
  refine tr1 rfl (aD (v := .d (.sl 5 (l_1.map aS))) (aA rfl) rfl rfl) ?_
  refine tr1 rfl (dC (aA rfl) rfl iW.of) ?_
  refine tr1 rfl (bR (aA rfl) rfl rfl rfl) ?_
  refine tr1 rfl (aD (v := .d (.lit (.bool ((decide (60 < (l_1.length : Int))))))) (aA rfl) rfl rfl) ?_
  obtain ⟨b5, h6, h⟩ := jF h
  refine cS 4 [1, 2] 18 b5 ?_ ?_
  ·refine bY (decide (60 < (l_1.length : Int))) (fun c10 => ?_) (fun c10 => ?_)
   ·have h6 := aX c10 h6
    refine aO rfl rfl (aA rfl) rfl (aA rfl) rfl c10 ?_
    refine aO rfl rfl (aA rfl) rfl (aA rfl) rfl c10 ?_
    refine aO rfl rfl (aA rfl) rfl (aA rfl) rfl c10 ?_
    refine tr1 rfl (cC (v := .d (.lit (.bool true))) (aA rfl) rfl c10 rfl rfl) ?_
    have h6 := Option.some.inj h6
    subst h6
    refine aG (bM rfl ⟨rfl, rfl, trivial⟩ rfl)
   ·have h6 := aY c10 h6
    refine aM rfl rfl (aA rfl) rfl c10 (aD (v := .d (.sl 5 (l_1.map aS))) (aA rfl) rfl rfl) ?_
    refine aM rfl rfl (aA rfl) rfl c10 (aHz (aA rfl) rfl rfl) ?_
    obtain ⟨r12, h13, h6⟩ := bind_some h6
    refine aM rfl rfl (aA rfl) rfl c10 (cL (aA rfl) (.func _ _ Try.call103) rfl rfl (.cons (.same _) (.cons ((aNx (.cons ((tK 0 rfl rfl (dvc (.same _) (dvc (.same _) dvn)))) .nil))) .nil)) (sP _ _ 104 [.cp [.lit (.int .i64 t_0.Rounds), .sl 1 (t_0.Slots.map aP)]] Try.call104 (fun _ _ h6 => aCx _ _ h6) h13) rfl) ?_
    refine tr1 rfl (cB (v := .d (.lit (.bool r12))) (aA rfl) rfl c10 rfl rfl) ?_
    have h6 := Option.some.inj h6
    subst h6
    refine aG (bM rfl ⟨rfl, rfl, trivial⟩ rfl)
  ·refine aG ?_
   refine cA rfl (fun c7 => ?_) (fun c7 => ?_)
   ·have h := jE c7 h
    refine aF ?_
    refine aC ?_
    refine tr1 rfl (aH (v := eO cK (none : Option cJ)) (aA rfl) rfl rfl) ?_
    refine tr1 rfl (aH (v := .d (.lit (.int .i64 71))) (aA rfl) rfl rfl) ?_
    refine aG ?_
    exact bU ⟨rfl, _, [], [.box b1 0 (bG t_0)], _, .two (.tmp 4 (v := eO cK (none : Option cJ)) rfl) (.tmp 5 (v := .d (.lit (.int .i64 71))) rfl), .refl _, .same _, ((none : Option cJ), 71), h, rfl, rfl⟩
   ·have h := jD c7 h
    refine bX ?_
    refine aF ?_
    refine aC ?_
    refine tr1 rfl (bN (aA rfl) rfl (i := 0) rfl fO (es := (bG t_0)) rfl rfl) ?_
    refine tr1 rfl (aD (v := .d (.sl 5 (l_1.map aS))) (aA rfl) rfl rfl) ?_
    refine cE rfl (uX (aA rfl) (.func _ _ Try.call106) rfl rfl (aDs _ _ h)) ?_
    rintro _ ⟨_, _, ⟨r8, h, rfl, rfl⟩, rfl⟩
    refine tr1 rfl (aD (v := .tup [eO cK r8.1, .d (.lit (.bool r8.2))]) (aA rfl) rfl rfl) ?_
    refine tr1 rfl (cD (aA rfl) rfl rfl) ?_
    refine tr1 rfl (cD (aA rfl) rfl rfl) ?_
    refine tr1 rfl (aH (v := eO cK r8.1) (aA rfl) rfl rfl) ?_
    refine tr1 rfl (aH (v := .d (.lit (.bool r8.2))) (aA rfl) rfl rfl) ?_
    refine aG ?_
    refine aF ?_
    refine aF ?_
    refine aC ?_
    refine tr1 rfl (aD (v := .d (.lit (.bool r8.2))) (aA rfl) rfl rfl) ?_
    refine tr1 rfl (dZ (aA rfl) rfl) ?_
    refine aG ?_
    refine cA rfl (fun c9 => ?_) (fun c9 => ?_)
    ·have h := jE c9 h
     refine aF ?_
     refine aC ?_
     refine tr1 rfl (aH (v := eO cK (none : Option cJ)) (aA rfl) rfl rfl) ?_
     refine tr1 rfl (aH (v := .d (.lit (.int .i64 72))) (aA rfl) rfl rfl) ?_
     refine aG ?_
     exact bU ⟨rfl, _, [], [.box b1 0 (bG t_0)], _, .two (.tmp 4 (v := eO cK (none : Option cJ)) rfl) (.tmp 5 (v := .d (.lit (.int .i64 72))) rfl), .refl _, .same _, ((none : Option cJ), 72), h, rfl, rfl⟩
    ·have h := jD c9 h
     refine bX ?_
     refine aF ?_
     refine aC ?_
     refine tr1 rfl (aD (v := eO cK r8.1) (aA rfl) rfl rfl) ?_
     refine tr1 rfl (aH (v := eO cK r8.1) (aA rfl) rfl rfl) ?_
     refine tr1 rfl (aH (v := .d (.lit (.int .i64 0))) (aA rfl) rfl rfl) ?_
     refine aG ?_
     exact bU ⟨rfl, _, [], [.box b1 0 (bG t_0)], _, .two (.tmp 4 (v := eO cK r8.1) rfl) (.tmp 5 (v := .d (.lit (.int .i64 0))) rfl), .refl _, .same _, (r8.1, 0), h, rfl, rfl⟩

theorem sT (d_0 : cJ) (m_1 : aI) (side_2 : Int) {r : Int} (h : kQ d_0 m_1 side_2 = some r) : Fn Try.prog 113 [.cp (cK d_0), .agg (aT m_1), .d (.lit (.int .i64 side_2))] (.d (.lit (.int .i64 r))) := by
 unfold kQ at h
 refine Fn.of_tr Try.func113 rfl (rs := [.tmp 6]) Try.results113 Try.ntmps113 (Nat.le_of_ble_eq_true rfl) ?_
 refine aF ?_
 refine aC ?_
 refine cE rfl (eC (v := .agg (aT m_1)) (aA rfl) rfl rfl rfl) ?_
 rintro _ ⟨b1, rfl⟩
 refine tr1 rfl (aH (v := .d (.lit (.int .i64 0))) (aA rfl) rfl rfl) ?_
 refine aG ?_
 refine aF ?_
 refine aC ?_
 refine tr1 rfl (aN (aA rfl) rfl aFv) ?_
 refine tr1 rfl (aR (aA rfl) rfl (i := 0) rfl rfl bL) ?_
 refine tr1 rfl (bT (aA rfl) rfl rfl rfl) ?_
 refine tr1 rfl (aD (v := .d (.lit (.int .i64 side_2))) (aA rfl) rfl rfl) ?_
 refine tr1 rfl (bT (aA rfl) rfl rfl rfl) ?_
 refine tr1 rfl (aH (v := .d (.lit (.int .i64 ((w64 ((w64 (2 * m_1.place)) + side_2)))))) (aA rfl) rfl rfl) ?_
 refine aG ?_
 refine aF ?_
 refine aF ?_
 refine aC ?_
 refine tr1 rfl (aN (aA rfl) rfl nK) ?_
 refine tr1 rfl (aR (aA rfl) rfl (i := 0) rfl rfl bL) ?_
 refine tr1 rfl (bR (aA rfl) rfl rfl rfl) ?_
 refine aG ?_
 refine cA rfl (fun c2 => ?_) (fun c2 => ?_)
 ·have h := aX c2 h
  refine aF ?_
  refine aC ?_
  refine tr1 rfl (aD (v := .cp [.lit (.int .i64 d_0.Tree.Rounds), .sl 1 (d_0.Tree.Slots.map aP), .sl 1 (d_0.players.map aP), .mp false (d_0.won.map fun p : aI × Int => ((fun a : aI => Value.agg ((aT a).map cH).toArray) p.1, aP p.2))]) (aA rfl) rfl rfl) ?_
  refine tr1 rfl (fQ (aA rfl) rfl) ?_
  refine tr1 rfl (cG (aA rfl) rfl oN (es := [.sl 1 (d_0.players.map aP)]) rfl) ?_
  refine tr1 rfl (bZ (aA rfl) rfl dF) ?_
  refine tr1 rfl (aD (v := .d (.lit (.int .i64 ((w64 ((w64 (2 * m_1.place)) + side_2)))))) (aA rfl) rfl rfl) ?_
  obtain ⟨x3, h4, h⟩ := bind_some h
  refine tr1 rfl (bJ (aA rfl) rfl rfl cT.of (bP aP h4)) ?_
  refine tr1 rfl (bZ (aA rfl) rfl bL) ?_
  refine tr1 rfl (aH (v := .d (.lit (.int .i64 x3))) (aA rfl) rfl rfl) ?_
  refine aG ?_
  have h := Option.some.inj h
  subst h
  refine cQ (cF (cN (l := [6]) ⟨rfl, trivial⟩)) ?_
  exact bU ⟨rfl, _, .one _, rfl, rfl⟩
 ·have h := aY c2 h
  refine bX ?_
  refine aF ?_
  refine aF ?_
  refine eD mix 14 [] [(8, .d (.lit (.int .i64 ((dK (aI.mk (w64 (m_1.round - 1)) (w64 ((w64 (2 * m_1.place)) + side_2))) 0 d_0.won))))), (37, .d (.lit (.bool ((eF (aI.mk (w64 (m_1.round - 1)) (w64 ((w64 (2 * m_1.place)) + side_2))) d_0.won)))))] ?_ ?_
  ·refine ⟨[(26, 0, .cp [.lit (.int .i64 d_0.Tree.Rounds), .sl 1 (d_0.Tree.Slots.map aP), .sl 1 (d_0.players.map aP), .mp false (d_0.won.map fun p : aI × Int => ((fun a : aI => Value.agg ((aT a).map cH).toArray) p.1, aP p.2))]), (27, 1, .cp [.lit (.int .i64 d_0.Tree.Rounds), .sl 1 (d_0.Tree.Slots.map aP), .sl 1 (d_0.players.map aP), .mp false (d_0.won.map fun p : aI × Int => ((fun a : aI => Value.agg ((aT a).map cH).toArray) p.1, aP p.2))]), (28, 2, .cp [.mp false (d_0.won.map fun p : aI × Int => ((fun a : aI => Value.agg ((aT a).map cH).toArray) p.1, aP p.2))]), (29, 3, .d (.mp false (d_0.won.map fun p : aI × Int => ((fun a : aI => Value.agg ((aT a).map cH).toArray) p.1, aP p.2)))), (30, 4, .bp b1 0 0), (31, 5, .d (.lit (.int .i64 m_1.round))), (32, 6, .d (.lit (.int .i64 ((w64 (m_1.round - 1)))))), (33, 7, .d (.lit (.int .i64 ((w64 ((w64 (2 * m_1.place)) + side_2)))))), (34, 8, .agg (aT (aI.mk (w64 (m_1.round - 1)) (w64 ((w64 (2 * m_1.place)) + side_2))))), (35, 9, .tup [.d (.lit (.int .i64 ((dK (aI.mk (w64 (m_1.round - 1)) (w64 ((w64 (2 * m_1.place)) + side_2))) 0 d_0.won)))), .d (.lit (.bool ((eF (aI.mk (w64 (m_1.round - 1)) (w64 ((w64 (2 * m_1.place)) + side_2))) d_0.won))))]), (25, 10, .tup [.d (.lit (.int .i64 ((dK (aI.mk (w64 (m_1.round - 1)) (w64 ((w64 (2 * m_1.place)) + side_2))) 0 d_0.won)))), .d (.lit (.bool ((eF (aI.mk (w64 (m_1.round - 1)) (w64 ((w64 (2 * m_1.place)) + side_2))) d_0.won))))]), (36, 11, .d (.lit (.int .i64 ((dK (aI.mk (w64 (m_1.round - 1)) (w64 ((w64 (2 * m_1.place)) + side_2))) 0 d_0.won))))), (37, 12, .d (.lit (.bool ((eF (aI.mk (w64 (m_1.round - 1)) (w64 ((w64 (2 * m_1.place)) + side_2))) d_0.won))))), (8, 13, .d (.lit (.int .i64 ((dK (aI.mk (w64 (m_1.round - 1)) (w64 ((w64 (2 * m_1.place)) + side_2))) 0 d_0.won)))))], ?_, ?_⟩
   · exact ⟨by kernel_rfl, by kernel_rfl, by kernel_rfl, by kernel_rfl, by kernel_rfl, [([], []), ([0], []), ([1], []), ([2], []), ([], []), ([4], []), ([5], []), ([], []), ([6, 7], []), ([3, 8], []), ([9], []), ([10], []), ([10], []), ([11], [])], by kernel_rfl, ⟨fun S hS => aE rfl (aJ rfl (aD (v := .cp [.lit (.int .i64 d_0.Tree.Rounds), .sl 1 (d_0.Tree.Slots.map aP), .sl 1 (d_0.players.map aP), .mp false (d_0.won.map fun p : aI × Int => ((fun a : aI => Value.agg ((aT a).map cH).toArray) p.1, aP p.2))]) (aA rfl) (aB hS rfl) rfl)),
      fun S hS => aE rfl (aJ rfl (fQ (aA rfl) (aB hS rfl))),
      fun S hS => aE rfl (aJ rfl (cG (aA rfl) (aB hS rfl) wF (es := [.mp false (d_0.won.map fun p : aI × Int => ((fun a : aI => Value.agg ((aT a).map cH).toArray) p.1, aP p.2))]) rfl)),
      fun S hS => aE rfl (aJ rfl (bZ (aA rfl) (aB hS rfl) aBt)),
      fun S hS => aE rfl (aJ rfl (aN (aA rfl) (aB hS rfl) nK)),
      fun S hS => aE rfl (aJ rfl (aR (aA rfl) (aB hS rfl) (i := 0) rfl rfl bL)),
      fun S hS => aE rfl (aJ rfl (bT (aA rfl) (aB hS rfl) rfl rfl)),
      fun S hS => aE rfl (aJ rfl (aD (v := .d (.lit (.int .i64 ((w64 ((w64 (2 * m_1.place)) + side_2)))))) (aA rfl) (aB hS rfl) rfl)),
      fun S hS => aE rfl (aJ rfl (eA (aA rfl) uY (zs := [.lit (.int .i64 0), .lit (.int .i64 0)]) rfl rfl rfl (pa2 (aB hS rfl) (pa2 (aB hS rfl) pan)) (es := [.lit (.int .i64 ((w64 (m_1.round - 1)))), .lit (.int .i64 ((w64 ((w64 (2 * m_1.place)) + side_2))))]) rfl)),
      fun S hS => aE rfl (aJ rfl (zQ (enc := aP) (agg := false) (l := d_0.won) (z := 0) (a := (aI.mk (w64 (m_1.round - 1)) (w64 ((w64 (2 * m_1.place)) + side_2)))) (aA rfl) uW Try.underlying116 Try.zeroValue3 (fun _ _ => .d (.lit _ rfl)) (aB hS rfl) rfl rfl (aB hS rfl) (kU (enc := aT) (aI.mk (w64 (m_1.round - 1)) (w64 ((w64 (2 * m_1.place)) + side_2))) rfl))),
      fun S hS => aE rfl (aJ rfl (aD (v := .tup [.d (.lit (.int .i64 ((dK (aI.mk (w64 (m_1.round - 1)) (w64 ((w64 (2 * m_1.place)) + side_2))) 0 d_0.won)))), .d (.lit (.bool ((eF (aI.mk (w64 (m_1.round - 1)) (w64 ((w64 (2 * m_1.place)) + side_2))) d_0.won))))]) (aA rfl) (aB hS rfl) rfl)),
      fun S hS => aE rfl (aJ rfl (cD (aA rfl) (aB hS rfl) rfl)),
      fun S hS => aE rfl (aJ rfl (cD (aA rfl) (aB hS rfl) rfl)),
      fun S hS => aE rfl (aJ rfl (aH (v := .d (.lit (.int .i64 ((dK (aI.mk (w64 (m_1.round - 1)) (w64 ((w64 (2 * m_1.place)) + side_2))) 0 d_0.won))))) (aA rfl) (aB hS rfl) rfl)), trivial⟩⟩
   · exact dE (aU rfl (aU rfl (bC trivial)))
  ·refine tr1 rfl (aH (v := .d (.lit (.bool ((eF (aI.mk (w64 (m_1.round - 1)) (w64 ((w64 (2 * m_1.place)) + side_2))) d_0.won))))) (aA rfl) rfl rfl) ?_
   refine aG ?_
   refine aF ?_
   refine aC ?_
   refine tr1 rfl (aD (v := .d (.lit (.bool ((eF (aI.mk (w64 (m_1.round - 1)) (w64 ((w64 (2 * m_1.place)) + side_2))) d_0.won))))) (aA rfl) rfl rfl) ?_
   refine aG ?_
   refine cA rfl (fun c5 => ?_) (fun c5 => ?_)
   ·have h := aX c5 h
    refine aF ?_
    refine aC ?_
    refine tr1 rfl (aD (v := .d (.lit (.int .i64 ((dK (aI.mk (w64 (m_1.round - 1)) (w64 ((w64 (2 * m_1.place)) + side_2))) 0 d_0.won))))) (aA rfl) rfl rfl) ?_
    refine tr1 rfl (aH (v := .d (.lit (.int .i64 ((dK (aI.mk (w64 (m_1.round - 1)) (w64 ((w64 (2 * m_1.place)) + side_2))) 0 d_0.won))))) (aA rfl) rfl rfl) ?_
    refine aG ?_
    have h := Option.some.inj h
    subst h
    refine cQ (cF (cN (l := [6]) ⟨rfl, trivial⟩)) ?_
    exact bU ⟨rfl, _, .one _, rfl, rfl⟩
   ·have h := aY c5 h
    refine bX ?_
    refine aF ?_
    refine aC ?_
    refine tr1 rfl (aH (v := .d (.lit (.int .i64 (-2)))) (aA rfl) rfl rfl) ?_
    refine aG ?_
    have h := Option.some.inj h
    subst h
    refine cQ (cF (cN (l := [6]) ⟨rfl, trivial⟩)) ?_
    exact bU ⟨rfl, _, .one _, rfl, rfl⟩

theorem wU {S : Type} (J : S → MO → Prop) (ly : Nat) (yield_1 : S → aI → bK → Option S) (hy : ∀ (s : S) (m : MO) (x0 : aI) (x1 : bK) (s' : S), J s m → yield_1 s x0 x1 = some s' → aAb Try.prog ly [.agg (aT x0), .agg (bI x1)] m (J s')) (d_0 : cJ) (sy : S) (m0 : MO) (hj : J sy m0) {r : S} (h : kJ d_0 yield_1 sy = some r) : gF Try.prog 95 [.cp (cK d_0), .d (.lit (yv ly))] [m0] (fun _ o' => ∃ m', J r m' ∧ o' = [m']) := by
 unfold kJ at h
 refine aIh Try.func95 rfl (rs := []) Try.results95 Try.ntmps95 (Nat.le_of_ble_eq_true rfl) ?_
 refine aF ?_
 refine aC ?_
 refine tr1 rfl (aD (v := .cp [.lit (.int .i64 d_0.Tree.Rounds), .sl 1 (d_0.Tree.Slots.map aP), .sl 1 (d_0.players.map aP), .mp false (d_0.won.map fun p : aI × Int => ((fun a : aI => Value.agg ((aT a).map cH).toArray) p.1, aP p.2))]) (aA rfl) rfl rfl) ?_
 refine tr1 rfl (fQ (aA rfl) rfl) ?_
 refine tr1 rfl (cG (aA rfl) rfl aAi (es := [.lit (.int .i64 d_0.Tree.Rounds), .sl 1 (d_0.Tree.Slots.map aP)]) rfl) ?_
 refine tr1 rfl (cG (aA rfl) rfl kL (es := [.lit (.int .i64 d_0.Tree.Rounds)]) rfl) ?_
 refine tr1 rfl (bZ (aA rfl) rfl bL) ?_
 refine tr1 rfl (aD (v := .d (.lit (.int .i64 0))) (aA rfl) rfl rfl) ?_
 refine aG ?_
 refine cO ?_
 refine dG [0, 1, 11] (fun (s1 : Int × ({x : S × MO // J x.1 x.2})) => [(12, .d (.lit (.int .i64 s1.1)))]) (fun (s1 : Int × ({x : S × MO // J x.1 x.2})) => [s1.2.1.2]) (fun (k : Nat) (s1 : Int × ({x : S × MO // J x.1 x.2})) => dX yield_1 d_0 d_0.Tree.Rounds k s1.1 s1.2.1.1) (fun _ => rfl) (0, ⟨(sy, m0), hj⟩) h (bE [0] rfl rfl (aU rfl (bC ⟨rfl, rfl, rfl, trivial⟩))) ?_
 rintro k3 ⟨t12_0_1, y2⟩ h
 simp only [dX] at h
 refine aF ?_
 refine aC ?_
 refine tr1 rfl (bR (aA rfl) rfl rfl rfl) ?_
 refine aG ?_
 refine aF ?_
 refine cA rfl (fun c4 => ?_) (fun c4 => ?_)
 ·have h := aX c4 h
  refine bX ?_
  refine aF ?_
  refine cO ?_
  refine aF ?_
  refine aC ?_
  refine tr1 rfl (aD (v := .d (.lit (.int .i64 t12_0_1))) (aA rfl) rfl rfl) ?_
  refine tr1 rfl (aH (v := .d (.lit (.int .i64 t12_0_1))) (aA rfl) rfl rfl) ?_
  refine aG ?_
  refine aF ?_
  refine aC ?_
  refine tr1 rfl (aD (v := .cp [.lit (.int .i64 d_0.Tree.Rounds), .sl 1 (d_0.Tree.Slots.map aP), .sl 1 (d_0.players.map aP), .mp false (d_0.won.map fun p : aI × Int => ((fun a : aI => Value.agg ((aT a).map cH).toArray) p.1, aP p.2))]) (aA rfl) rfl rfl) ?_
  refine tr1 rfl (fQ (aA rfl) rfl) ?_
  refine tr1 rfl (cG (aA rfl) rfl aAi (es := [.lit (.int .i64 d_0.Tree.Rounds), .sl 1 (d_0.Tree.Slots.map aP)]) rfl) ?_
  refine tr1 rfl (cG (aA rfl) rfl eT (es := [.sl 1 (d_0.Tree.Slots.map aP)]) rfl) ?_
  refine tr1 rfl (bZ (aA rfl) rfl dF) ?_
  refine tr1 rfl (dC (aA rfl) rfl cT.of) ?_
  refine tr1 rfl (aD (v := .d (.lit (.int .i64 t12_0_1))) (aA rfl) rfl rfl) ?_
  refine tr1 rfl (bT (aA rfl) rfl rfl rfl) ?_
  obtain ⟨u5, h6, h⟩ := bind_some h
  refine tr1 rfl (aBz (aA rfl) rfl rfl (rB h6)) ?_
  refine tr1 rfl (aD (v := .d (.lit (.int .i64 0))) (aA rfl) rfl rfl) ?_
  refine aG ?_
  refine rS ?_
  refine dG [0, 1, 4, 11, 12, 23] (fun (s7 : Int × ({x : S × MO // J x.1 x.2})) => [(24, .d (.lit (.int .i64 s7.1)))]) (fun (s7 : Int × ({x : S × MO // J x.1 x.2})) => [s7.2.1.2]) (fun (k : Nat) (s7 : Int × ({x : S × MO // J x.1 x.2})) => fL yield_1 (dX yield_1 d_0 d_0.Tree.Rounds k3) d_0 t12_0_1 d_0.Tree.Rounds t12_0_1 ((d_0.Tree.Slots.length : Int).fdiv (2 ^ (min (w64 (t12_0_1 + 1)).toNat 64))) k s7.1 s7.2.1.1) (fun _ => rfl) (0, ⟨(y2.1.1, y2.1.2), y2.2⟩) h (bE [0] rfl rfl (aU rfl (bC ⟨rfl, rfl, rfl, rfl, rfl, rfl, trivial⟩))) ?_
  rintro k9 ⟨t24_2_7, y8⟩ h
  simp only [fL] at h
  refine aF ?_
  refine aC ?_
  refine tr1 rfl (bR (aA rfl) rfl rfl rfl) ?_
  refine aG ?_
  refine aF ?_
  refine cA rfl (fun c10 => ?_) (fun c10 => ?_)
  ·have h := aX c10 h
   refine bX ?_
   refine aF ?_
   refine cO ?_
   refine aF ?_
   refine aC ?_
   refine tr1 rfl (aD (v := .d (.lit (.int .i64 t24_2_7))) (aA rfl) rfl rfl) ?_
   refine tr1 rfl (aH (v := .d (.lit (.int .i64 t24_2_7))) (aA rfl) rfl rfl) ?_
   refine aG ?_
   refine aF ?_
   refine aC ?_
   refine tr1 rfl (aD (v := .d (.lit (.int .i64 t12_0_1))) (aA rfl) rfl rfl) ?_
   refine tr1 rfl (aD (v := .d (.lit (.int .i64 t24_2_7))) (aA rfl) rfl rfl) ?_
   refine tr1 rfl (eA (aA rfl) uY (zs := [.lit (.int .i64 0), .lit (.int .i64 0)]) rfl rfl rfl rfl (es := [.lit (.int .i64 t12_0_1), .lit (.int .i64 t24_2_7)]) rfl) ?_
   refine cE rfl (dM (zs := [.lit (.int .i64 0), .lit (.int .i64 0)]) (aA rfl) Try.zeroValue112 rfl rfl) ?_
   rintro _ ⟨b11, rfl⟩
   refine tr1 rfl (cM (i := 1) rfl rfl rfl rfl rfl Try.sizeOf112 rfl (aA rfl) (Nat.le_of_ble_eq_true rfl) (ds' := (aT (aI.mk t12_0_1 t24_2_7))) rfl) ?_
   refine aG ?_
   refine aF ?_
   obtain ⟨r12, h13, h⟩ := bind_some h
   obtain ⟨r14, h15, h⟩ := bind_some h
   refine eD mix 11 [0, 1, 4, 11, 12, 23, 24] [(30, .d (.lit (yv ly))), (31, .agg (aT (aI.mk t12_0_1 t24_2_7))), (40, .agg (bI (bK.mk t12_0_1 t24_2_7 r12 r14)))] ?_ ?_
   ·refine ⟨[(30, 0, .d (.lit (yv ly))), (31, 1, .agg (aT (aI.mk t12_0_1 t24_2_7))), (32, 2, .d (.lit (.int .i64 t12_0_1))), (33, 3, .d (.lit (.int .i64 t24_2_7))), (34, 4, .cp [.lit (.int .i64 d_0.Tree.Rounds), .sl 1 (d_0.Tree.Slots.map aP), .sl 1 (d_0.players.map aP), .mp false (d_0.won.map fun p : aI × Int => ((fun a : aI => Value.agg ((aT a).map cH).toArray) p.1, aP p.2))]), (35, 5, .agg (aT (aI.mk t12_0_1 t24_2_7))), (36, 6, .d (.lit (.int .i64 r12))), (37, 7, .cp [.lit (.int .i64 d_0.Tree.Rounds), .sl 1 (d_0.Tree.Slots.map aP), .sl 1 (d_0.players.map aP), .mp false (d_0.won.map fun p : aI × Int => ((fun a : aI => Value.agg ((aT a).map cH).toArray) p.1, aP p.2))]), (38, 8, .agg (aT (aI.mk t12_0_1 t24_2_7))), (39, 9, .d (.lit (.int .i64 r14))), (40, 10, .agg (bI (bK.mk t12_0_1 t24_2_7 r12 r14)))], ?_, ?_⟩
    · exact ⟨by kernel_rfl, by kernel_rfl, by kernel_rfl, by kernel_rfl, by kernel_rfl, [([], []), ([], []), ([], []), ([], []), ([], []), ([], []), ([4, 5], []), ([], []), ([], []), ([7, 8], []), ([2, 3, 6, 9], [])], by kernel_rfl, ⟨fun S hS => aE rfl (aJ rfl (aD (v := .d (.lit (yv ly))) (aA rfl) (aB hS rfl) rfl)),
      fun S hS => aE rfl (aJ rfl (bN (aA rfl) (aB hS rfl) (i := 1) rfl jZ (es := (aT (aI.mk t12_0_1 t24_2_7))) rfl rfl)),
      fun S hS => aE rfl (aJ rfl (aD (v := .d (.lit (.int .i64 t12_0_1))) (aA rfl) (aB hS rfl) rfl)),
      fun S hS => aE rfl (aJ rfl (aD (v := .d (.lit (.int .i64 t24_2_7))) (aA rfl) (aB hS rfl) rfl)),
      fun S hS => aE rfl (aJ rfl (aD (v := .cp [.lit (.int .i64 d_0.Tree.Rounds), .sl 1 (d_0.Tree.Slots.map aP), .sl 1 (d_0.players.map aP), .mp false (d_0.won.map fun p : aI × Int => ((fun a : aI => Value.agg ((aT a).map cH).toArray) p.1, aP p.2))]) (aA rfl) (aB hS rfl) rfl)),
      fun S hS => aE rfl (aJ rfl (bN (aA rfl) (aB hS rfl) (i := 1) rfl jZ (es := (aT (aI.mk t12_0_1 t24_2_7))) rfl rfl)),
      fun S hS => aE rfl (aJ rfl (cL (aA rfl) (.func _ _ Try.call113) (ev2 (aB hS rfl) (ev2 (aB hS rfl) (ev2 rfl evn))) rfl (BVs.refl _ _) (sT _ _ _ h13) rfl)),
      fun S hS => aE rfl (aJ rfl (aD (v := .cp [.lit (.int .i64 d_0.Tree.Rounds), .sl 1 (d_0.Tree.Slots.map aP), .sl 1 (d_0.players.map aP), .mp false (d_0.won.map fun p : aI × Int => ((fun a : aI => Value.agg ((aT a).map cH).toArray) p.1, aP p.2))]) (aA rfl) (aB hS rfl) rfl)),
      fun S hS => aE rfl (aJ rfl (bN (aA rfl) (aB hS rfl) (i := 1) rfl jZ (es := (aT (aI.mk t12_0_1 t24_2_7))) rfl rfl)),
      fun S hS => aE rfl (aJ rfl (cL (aA rfl) (.func _ _ Try.call113) (ev2 (aB hS rfl) (ev2 (aB hS rfl) (ev2 rfl evn))) rfl (BVs.refl _ _) (sT _ _ _ h15) rfl)),
      fun S hS => aE rfl (aJ rfl (eA (aA rfl) aMj (zs := [.lit (.int .i64 0), .lit (.int .i64 0), .lit (.int .i64 0), .lit (.int .i64 0)]) rfl rfl rfl (pa2 (aB hS rfl) (pa2 (aB hS rfl) (pa2 (aB hS rfl) (pa2 (aB hS rfl) pan)))) (es := [.lit (.int .i64 t12_0_1), .lit (.int .i64 t24_2_7), .lit (.int .i64 r12), .lit (.int .i64 r14)]) rfl)), trivial⟩⟩
    · exact dE (aU rfl (aU rfl (aU rfl (bC ⟨rfl, rfl, rfl, rfl, rfl, rfl, rfl, trivial⟩))))
   ·obtain ⟨y16, h17, h⟩ := bind_some h
    refine aMl rfl (aOx (aA rfl) rfl rfl rfl rfl (hy _ _ _ _ _ y8.2 h17)) ?_
    rintro _ ⟨m18, hj19, rfl⟩
    refine tr1 rfl (dZ (aA rfl) rfl) ?_
    refine aG ?_
    refine cA rfl (fun c20 => ?_) (fun c20 => ?_)
    ·exact absurd c20 (by decide)
    ·refine dY ?_
     refine aC ?_
     refine tr1 rfl (bT (aA rfl) rfl rfl rfl) ?_
     refine tr1 rfl (aD (v := .d (.lit (.int .i64 ((w64 (t24_2_7 + 1)))))) (aA rfl) rfl rfl) ?_
     refine aG ?_
     exact ⟨(w64 (t24_2_7 + 1), ⟨(y16, m18), hj19⟩), h, bE [0] rfl rfl (aU rfl (bC ⟨rfl, rfl, rfl, rfl, rfl, rfl, trivial⟩))⟩
  ·have h := aY c10 h
   refine dA ?_
   refine .inl ⟨rfl, ?_⟩
   simp only [jH] at h
   simp only [nB] at h
   refine aC ?_
   refine tr1 rfl (bT (aA rfl) rfl rfl rfl) ?_
   refine tr1 rfl (aD (v := .d (.lit (.int .i64 ((w64 (t12_0_1 + 1)))))) (aA rfl) rfl rfl) ?_
   refine aG ?_
   exact ⟨(w64 (t12_0_1 + 1), ⟨(y8.1.1, y8.1.2), y8.2⟩), h, bE [0] rfl rfl (aU rfl (bC ⟨rfl, rfl, rfl, trivial⟩))⟩
 ·have h := aY c4 h
  refine dA ?_
  refine .inl ⟨rfl, ?_⟩
  simp only [nA] at h
  have h := Option.some.inj h
  subst h
  exact ⟨_, [y2.1.2], [], _, .none, .refl _, .same _, y2.1.2, y2.2, rfl⟩

theorem aDq (t_0 : bD) (l_1 : List aK) {Q : ((List bK) × Int) → Prop} (h : pC t_0 l_1 Q) : gF Try.prog 75 [.agg (bG t_0), .d (.sl 5 (l_1.map aS))] [] (fun r' o' => ∃ (r : (List bK) × Int), Q r ∧ r' = .tup [.d (.sl 4 (r.1.map bI)), .d (.lit (.int .i64 r.2))] ∧ o' = []) := by
 unfold pC at h
 refine lH Try.func75 rfl (rs := [.tmp 4, .tmp 5]) Try.results75 Try.ntmps75 (Nat.le_of_ble_eq_true rfl) ?_
 refine aF ?_
 refine aC ?_
 refine cE rfl (eC (v := .agg (bG t_0)) (aA rfl) rfl rfl rfl) ?_
 rintro _ ⟨b1, rfl⟩
 refine tr1 rfl (fZ 4 (aA rfl)) ?_
 refine tr1 rfl (aH (v := .d (.lit (.int .i64 0))) (aA rfl) rfl rfl) ?_
 refine aG ?_
 refine aF ?_
 refine aC ?_
 refine tr1 rfl (bN (aA rfl) rfl (i := 0) rfl fO (es := (bG t_0)) rfl rfl) ?_
 refine tr1 rfl (aD (v := .d (.sl 5 (l_1.map aS))) (aA rfl) rfl rfl) ?_
 refine cE rfl (uX (aA rfl) (.func _ _ Try.call82) rfl rfl (xF _ _ h)) ?_
 rintro _ ⟨_, _, ⟨r2, h, rfl, rfl⟩, rfl⟩
 refine tr1 rfl (aD (v := .tup [eO cK r2.1, .d (.lit (.int .i64 r2.2))]) (aA rfl) rfl rfl) ?_
 refine tr1 rfl (cD (aA rfl) rfl rfl) ?_
 refine tr1 rfl (cD (aA rfl) rfl rfl) ?_
 refine tr1 rfl (aH (v := eO cK r2.1) (aA rfl) rfl rfl) ?_
 refine tr1 rfl (aH (v := .d (.lit (.int .i64 r2.2))) (aA rfl) rfl rfl) ?_
 refine aG ?_
 refine aF ?_
 refine aF ?_
 refine aC ?_
 refine tr1 rfl (aD (v := .d (.lit (.int .i64 r2.2))) (aA rfl) rfl rfl) ?_
 refine tr1 rfl (bR (aA rfl) rfl rfl rfl) ?_
 refine aG ?_
 refine cA rfl (fun c3 => ?_) (fun c3 => ?_)
 ·have h := jE c3 h
  refine aF ?_
  refine aC ?_
  refine tr1 rfl (aD (v := .d (.lit (.int .i64 r2.2))) (aA rfl) rfl rfl) ?_
  refine tr1 rfl (fZ 4 (aA rfl)) ?_
  refine tr1 rfl (aH (v := .d (.lit (.int .i64 r2.2))) (aA rfl) rfl rfl) ?_
  refine aG ?_
  exact bU ⟨rfl, _, [], [.box b1 0 (bG t_0)], _, .two (.tmp 4 (v := .d (.sl 4 ((([] : List bK)).map bI))) rfl) (.tmp 5 (v := .d (.lit (.int .i64 r2.2))) rfl), .refl _, .same _, (([] : List bK), r2.2), h, rfl, rfl⟩
 ·have h := jD c3 h
  refine bX ?_
  refine aF ?_
  refine aC ?_
  refine cE rfl (dM (zs := [.lit (.slice none 0 0)]) (aA rfl) Try.zeroValue69 rfl rfl) ?_
  rintro _ ⟨b4, rfl⟩
  refine kH (rZ 73 4) ?_
  refine aG ?_
  refine aF ?_
  refine aF ?_
  refine aC ?_
  refine tr1 rfl (aD (v := eO cK r2.1) (aA rfl) rfl rfl) ?_
  obtain ⟨x5, h6, h⟩ := jF h
  refine kH (aOm (enc := cK) (k := 20) rfl h6) ?_
  refine tr1 rfl (aPw (aA rfl) rfl rfl) ?_
  refine aG ?_
  refine cO ?_
  obtain ⟨s7, h8, h⟩ := jF h
  refine tI ?_ aPv
  refine aNt (S := (List bK) × Value) (S0 := (List bK)) (f := 95) (ps := [22, 23]) (fun z11 => z11.1) (fun z11 => [.box b1 0 (bG t_0), .box b4 0 [.lit z11.2], .arr z11.2 73 4 (z11.1.map bI)]) (aQe (fun x12 : aI => .agg (aT x12)) (fun x13 : bK => .agg (bI x13)) _) (([] : List bK), (.slice none 0 0)) ([] : List bK) s7 (bE [0, 1, 2] rfl rfl (le_refl _)) rfl Try.call95 rfl (by decide) rfl rfl (fun l J hy m0 h0 => wU (S := (List bK)) J l _ (fun _ _ _ _ _ hJ hq => hy _ _ _ _ hJ ⟨_, _, rfl, hq⟩) x5 _ m0 h0 h8) ?_ ?_
  ·rintro ⟨e9, w10⟩ _ _ ⟨x12, x13, rfl, h⟩
   refine ⟨rfl, ?_⟩
   refine aC ?_
   refine cE rfl (dM (zs := [.lit (.int .i64 0), .lit (.int .i64 0), .lit (.int .i64 0), .lit (.int .i64 0)]) (aA rfl) Try.zeroValue73 rfl rfl) ?_
   rintro _ ⟨b14, rfl⟩
   refine tr1 rfl (cM (i := 3) rfl rfl rfl rfl rfl Try.sizeOf73 rfl (aA rfl) (Nat.le_of_ble_eq_true rfl) (ds' := (bI x13)) rfl) ?_
   refine aG ?_
   refine cO ?_
   refine aC ?_
   refine tr1 rfl (aR (aA rfl) rfl (i := 1) rfl rfl aMa) ?_
   refine tr1 rfl (bN (aA rfl) rfl (i := 3) rfl vC (es := (bI x13)) rfl rfl) ?_
   refine tr1 rfl (eW (aA rfl) iF rfl rfl (rows := ([x13]).map bI) rfl (dD (f := bI) fun _ => rfl) rfl (by decide)) ?_
   obtain ⟨x15, h16, h⟩ := bind_some h
   refine cE rfl (fC (i := 2) (aA rfl) iF rfl rfl rfl (fun _ => rfl) h16 rfl) ?_
   rintro _ ⟨v17, rfl⟩
   refine tr1 rfl (cM (i := 1) rfl rfl rfl rfl rfl Try.sizeOf69 rfl (aA rfl) (Nat.le_of_ble_eq_true rfl) (ds' := [.lit v17]) rfl) ?_
   refine fB ?_
   have h := Option.some.inj h
   subst h
   exact ⟨(x15, v17), rfl, bE [0, 1, 2] rfl rfl aPt⟩
  ·rintro ⟨e9, w10⟩ h18
   subst h18
   refine aF ?_
   refine aC ?_
   refine tr1 rfl (aR (aA rfl) rfl (i := 1) rfl rfl aMa) ?_
   refine tr1 rfl (aH (v := .d (.lit w10)) (aA rfl) rfl rfl) ?_
   refine tr1 rfl (aH (v := .d (.lit (.int .i64 0))) (aA rfl) rfl rfl) ?_
   refine aG ?_
   exact bU ⟨rfl, _, [], [.box b1 0 (bG t_0), .box b4 0 [.lit w10], .arr w10 73 4 (e9.map bI)], _, .two (.tmp 4 (v := .d (.lit w10)) rfl) (.tmp 5 (v := .d (.lit (.int .i64 0))) rfl), .refl _, aGz (.cons (.d (gQ 2 rfl (dD (f := bI) fun _ => rfl))) (.cons (.same _) .nil)), (e9, 0), h, rfl, rfl⟩

theorem tG (s_0 : List cZ) (f_1 : cZ → Option Bool) {r : Int} (f_1_f : Nat) (f_1_v : List AV) (f_1_e : ∀ args w, (callFunc f_1_f args).run Try.prog w = .ok (.enter f_1_f args) w) (f_1_h : ∀ (x0 : cZ) r, f_1 x0 = some r → Fn Try.prog f_1_f ([.agg (cY x0)] ++ f_1_v) (.d (.lit (.bool r)))) (h : iH s_0 f_1 = some r) : Fn Try.prog 96 [.d (.sl 3 (s_0.map cY)), .fn f_1_f f_1_v] (.d (.lit (.int .i64 r))) := by
 unfold iH at h
 refine Fn.of_tr Try.func96 rfl (rs := [.tmp 4]) Try.results96 Try.ntmps96 (Nat.le_of_ble_eq_true rfl) ?_
 refine aF ?_
 refine aC ?_
 refine tr1 rfl (aH (v := .d (.lit (.int .i64 0))) (aA rfl) rfl rfl) ?_
 refine aG ?_
 refine aF ?_
 refine aF ?_
 refine aC ?_
 refine tr1 rfl (aD (v := .d (.sl 3 (s_0.map cY))) (aA rfl) rfl rfl) ?_
 refine tr1 rfl (dC (aA rfl) rfl pU.of) ?_
 refine tr1 rfl (aD (v := .d (.lit (.int .i64 0))) (aA rfl) rfl rfl) ?_
 refine aG ?_
 refine cO ?_
 refine dG [0, 1, 7] (fun (s1 : Int) => [(8, .d (.lit (.int .i64 s1)))]) (fun (s1 : Int) => []) (fun (k : Nat) (s1 : Int) => eU s_0 f_1 (s_0.length : Int) k s1) (fun _ => rfl) (0) h (bE [] rfl rfl (aU rfl (bC ⟨rfl, rfl, rfl, trivial⟩))) ?_
 rintro k2 t8_0_1 h
 simp only [eU] at h
 refine aF ?_
 refine aC ?_
 refine tr1 rfl (bR (aA rfl) rfl rfl rfl) ?_
 refine aG ?_
 refine aF ?_
 refine cA rfl (fun c3 => ?_) (fun c3 => ?_)
 ·have h := aX c3 h
  refine bX ?_
  refine aF ?_
  refine cO ?_
  refine aF ?_
  refine aC ?_
  refine tr1 rfl (aD (v := .d (.lit (.int .i64 t8_0_1))) (aA rfl) rfl rfl) ?_
  refine tr1 rfl (aH (v := .d (.lit (.int .i64 t8_0_1))) (aA rfl) rfl rfl) ?_
  refine aG ?_
  refine aF ?_
  refine aC ?_
  refine tr1 rfl (aD (v := .fn f_1_f f_1_v) (aA rfl) rfl rfl) ?_
  refine tr1 rfl (aD (v := .d (.sl 3 (s_0.map cY))) (aA rfl) rfl rfl) ?_
  refine tr1 rfl (aD (v := .d (.lit (.int .i64 t8_0_1))) (aA rfl) rfl rfl) ?_
  obtain ⟨x4, h5, h⟩ := bind_some h
  refine tr1 rfl (bJ (aA rfl) rfl rfl pU.of (bP cY h5)) ?_
  refine tr1 rfl (dB (aA rfl) rfl aPj (es := (cY x4)) rfl rfl) ?_
  obtain ⟨r6, h7, h⟩ := bind_some h
  refine tr1 rfl (cL (aA rfl) (.clo _ _ _ _ f_1_e rfl) (aAh rfl) rfl (BVs.refl _ _) (f_1_h _ _  h7) rfl) ?_
  refine aG ?_
  refine cA rfl (fun c8 => ?_) (fun c8 => ?_)
  ·have h := aX c8 h
   refine aF ?_
   refine aC ?_
   refine tr1 rfl (aD (v := .d (.lit (.int .i64 t8_0_1))) (aA rfl) rfl rfl) ?_
   refine tr1 rfl (aH (v := .d (.lit (.int .i64 t8_0_1))) (aA rfl) rfl rfl) ?_
   refine aG ?_
   have h := Option.some.inj h
   subst h
   exact bU ⟨rfl, _, .one _, rfl, rfl⟩
  ·have h := aY c8 h
   refine dY ?_
   refine aC ?_
   refine tr1 rfl (bT (aA rfl) rfl rfl rfl) ?_
   refine tr1 rfl (aD (v := .d (.lit (.int .i64 ((w64 (t8_0_1 + 1)))))) (aA rfl) rfl rfl) ?_
   refine aG ?_
   exact ⟨(w64 (t8_0_1 + 1)), h, bE [] rfl rfl (aU rfl (bC ⟨rfl, rfl, rfl, trivial⟩))⟩
 ·have h := aY c3 h
  refine dA ?_
  refine .inl ⟨rfl, ?_⟩
  simp only [kV] at h
  refine aF ?_
  refine aC ?_
  refine tr1 rfl (aH (v := .d (.lit (.int .i64 (-1)))) (aA rfl) rfl rfl) ?_
  refine aG ?_
  have h := Option.some.inj h
  subst h
  exact bU ⟨rfl, _, .one _, rfl, rfl⟩

theorem rT (s_0 : List cZ) (f_1 : cZ → Option Bool) {r : Bool} (f_1_f : Nat) (f_1_v : List AV) (f_1_e : ∀ args w, (callFunc f_1_f args).run Try.prog w = .ok (.enter f_1_f args) w) (f_1_h : ∀ (x0 : cZ) r, f_1 x0 = some r → Fn Try.prog f_1_f ([.agg (cY x0)] ++ f_1_v) (.d (.lit (.bool r)))) (h : gG s_0 f_1 = some r) : Fn Try.prog 76 [.d (.sl 3 (s_0.map cY)), .fn f_1_f f_1_v] (.d (.lit (.bool r))) := by
 unfold gG at h
 refine Fn.of_tr Try.func76 rfl (rs := [.tmp 4]) Try.results76 Try.ntmps76 (Nat.le_of_ble_eq_true rfl) ?_
 refine aF ?_
 refine aC ?_
 refine tr1 rfl (aH (v := .d (.lit (.bool false))) (aA rfl) rfl rfl) ?_
 refine aG ?_
 refine aF ?_
 refine aC ?_
 refine tr1 rfl (aD (v := .d (.sl 3 (s_0.map cY))) (aA rfl) rfl rfl) ?_
 refine tr1 rfl (aD (v := .fn f_1_f f_1_v) (aA rfl) rfl rfl) ?_
 obtain ⟨r1, h2, h⟩ := bind_some h
 refine tr1 rfl (cL (aA rfl) (.func _ _ Try.call96) rfl rfl (BVs.refl _ _) (tG _ _ f_1_f f_1_v f_1_e f_1_h h2) rfl) ?_
 refine tr1 rfl (bR (aA rfl) rfl rfl rfl) ?_
 refine tr1 rfl (aH (v := .d (.lit (.bool ((decide (0 ≤ r1)))))) (aA rfl) rfl rfl) ?_
 refine aG ?_
 have h := Option.some.inj h
 subst h
 exact bU ⟨rfl, _, .one _, rfl, rfl⟩

theorem aGn (s_0 : cZ) {r : Bool} (h : qV s_0 = some r) : Fn Try.prog 77 [.agg (cY s_0)] (.d (.lit (.bool r))) := by
 unfold qV at h
 refine Fn.of_tr Try.func77 rfl (rs := [.tmp 2]) Try.results77 Try.ntmps77 (Nat.le_of_ble_eq_true rfl) ?_
 refine aF ?_
 refine aC ?_
 refine cE rfl (eC (v := .agg (cY s_0)) (aA rfl) rfl rfl rfl) ?_
 rintro _ ⟨b1, rfl⟩
 refine tr1 rfl (aH (v := .d (.lit (.bool false))) (aA rfl) rfl rfl) ?_
 refine aG ?_
 refine aF ?_
 refine aC ?_
 refine tr1 rfl (aN (aA rfl) rfl yO) ?_
 refine tr1 rfl (bN (aA rfl) rfl (i := 0) rfl gW (es := (bF s_0.Length)) rfl rfl) ?_
 refine tr1 rfl (aN (aA rfl) rfl yP) ?_
 refine tr1 rfl (aR (aA rfl) rfl (i := 0) rfl rfl bL) ?_
 obtain ⟨r2, h3, h⟩ := bind_some h
 refine tr1 rfl (cL (aA rfl) (.func _ _ Try.call61) rfl rfl (BVs.refl _ _) (xS _ _ h3) rfl) ?_
 refine tr1 rfl (dZ (aA rfl) rfl) ?_
 refine tr1 rfl (aH (v := .d (.lit (.bool (!r2)))) (aA rfl) rfl rfl) ?_
 refine aG ?_
 have h := Option.some.inj h
 subst h
 refine cQ (cF (cN (l := [2]) ⟨rfl, trivial⟩)) ?_
 exact bU ⟨rfl, _, .one _, rfl, rfl⟩

theorem aGy (t_0 : bD) (l_1 : List aK) (round_2 : Int) (place_3 : Int) {Q : ((Option cJ) × aI × Int) → Prop} (h : oT t_0 l_1 round_2 place_3 Q) : gF Try.prog 83 [.agg (bG t_0), .d (.sl 5 (l_1.map aS)), .d (.lit (.int .i64 round_2)), .d (.lit (.int .i64 place_3))] [] (fun r' o' => ∃ (r : (Option cJ) × aI × Int), Q r ∧ r' = .tup [eO cK r.1, .agg (aT r.2.1), .d (.lit (.int .i64 r.2.2))] ∧ o' = []) := by
 unfold oT at h
 refine lH Try.func83 rfl (rs := [.tmp 8, .cell 9 112, .tmp 10]) Try.results83 Try.ntmps83 (Nat.le_of_ble_eq_true rfl) ?_
 refine aF ?_
 refine aC ?_
 refine cE rfl (eC (v := .agg (bG t_0)) (aA rfl) rfl rfl rfl) ?_
 rintro _ ⟨b1, rfl⟩
 refine tr1 rfl (aH (v := eO cK (none : Option cJ)) (aA rfl) rfl rfl) ?_
 refine cE rfl (dM (zs := [.lit (.int .i64 0), .lit (.int .i64 0)]) (aA rfl) Try.zeroValue112 rfl rfl) ?_
 rintro _ ⟨b2, rfl⟩
 refine tr1 rfl (aH (v := .d (.lit (.int .i64 0))) (aA rfl) rfl rfl) ?_
 refine aG ?_
 refine aF ?_
 refine aC ?_
 refine tr1 rfl (bN (aA rfl) rfl (i := 0) rfl fO (es := (bG t_0)) rfl rfl) ?_
 refine tr1 rfl (aD (v := .d (.sl 5 (l_1.map aS))) (aA rfl) rfl rfl) ?_
 refine cE rfl (uX (aA rfl) (.func _ _ Try.call82) rfl rfl (xF _ _ h)) ?_
 rintro _ ⟨_, _, ⟨r3, h, rfl, rfl⟩, rfl⟩
 refine tr1 rfl (aD (v := .tup [eO cK r3.1, .d (.lit (.int .i64 r3.2))]) (aA rfl) rfl rfl) ?_
 refine tr1 rfl (cD (aA rfl) rfl rfl) ?_
 refine tr1 rfl (cD (aA rfl) rfl rfl) ?_
 refine tr1 rfl (aH (v := eO cK r3.1) (aA rfl) rfl rfl) ?_
 refine tr1 rfl (aH (v := .d (.lit (.int .i64 r3.2))) (aA rfl) rfl rfl) ?_
 refine aG ?_
 refine aF ?_
 refine aC ?_
 refine tr1 rfl (aD (v := .d (.lit (.int .i64 round_2))) (aA rfl) rfl rfl) ?_
 refine tr1 rfl (aD (v := .d (.lit (.int .i64 place_3))) (aA rfl) rfl rfl) ?_
 refine tr1 rfl (eA (aA rfl) uY (zs := [.lit (.int .i64 0), .lit (.int .i64 0)]) rfl rfl rfl rfl (es := [.lit (.int .i64 round_2), .lit (.int .i64 place_3)]) rfl) ?_
 refine cE rfl (dM (zs := [.lit (.int .i64 0), .lit (.int .i64 0)]) (aA rfl) Try.zeroValue112 rfl rfl) ?_
 rintro _ ⟨b4, rfl⟩
 refine tr1 rfl (cM (i := 2) rfl rfl rfl rfl rfl Try.sizeOf112 rfl (aA rfl) (Nat.le_of_ble_eq_true rfl) (ds' := (aT (aI.mk round_2 place_3))) rfl) ?_
 refine aG ?_
 refine aF ?_
 refine aF ?_
 refine aC ?_
 refine tr1 rfl (aD (v := .d (.lit (.int .i64 r3.2))) (aA rfl) rfl rfl) ?_
 refine tr1 rfl (bR (aA rfl) rfl rfl rfl) ?_
 refine tr1 rfl (aD (v := .d (.lit (.bool ((decide (r3.2 = 0)))))) (aA rfl) rfl rfl) ?_
 obtain ⟨b5, h6, h⟩ := jF h
 refine cS 5 [9, 11, 12, 13] 30 b5 ?_ ?_
 ·refine bY (decide (r3.2 = 0)) (fun c10 => ?_) (fun c10 => ?_)
  ·have h6 := aX c10 h6
   refine aM rfl rfl (aA rfl) rfl c10 (bN (aA rfl) rfl (i := 2) rfl jZ (es := (aT (aI.mk round_2 place_3))) rfl rfl) ?_
   refine aM rfl rfl (aA rfl) rfl c10 (bN (aA rfl) rfl (i := 0) rfl fO (es := (bG t_0)) rfl rfl) ?_
   obtain ⟨r11, h12, h6⟩ := bind_some h6
   refine aM rfl rfl (aA rfl) rfl c10 (cL (aA rfl) (.func _ _ Try.call107) rfl rfl (BVs.refl _ _) (tS _ _ h12) rfl) ?_
   refine aM rfl rfl (aA rfl) rfl c10 (dZ (aA rfl) rfl) ?_
   refine tr1 rfl (cC (v := .d (.lit (.bool (!r11)))) (aA rfl) rfl c10 rfl rfl) ?_
   have h6 := Option.some.inj h6
   subst h6
   refine aG (bM rfl ⟨rfl, rfl, rfl, rfl, trivial⟩ rfl)
  ·have h6 := aY c10 h6
   refine aO rfl rfl (aA rfl) rfl (aA rfl) rfl c10 ?_
   refine aO rfl rfl (aA rfl) rfl (aA rfl) rfl c10 ?_
   refine aO rfl rfl (aA rfl) rfl (aA rfl) rfl c10 ?_
   refine aO rfl rfl (aA rfl) rfl (aA rfl) rfl c10 ?_
   refine tr1 rfl (cB (v := .d (.lit (.bool false))) (aA rfl) rfl c10 rfl rfl) ?_
   have h6 := Option.some.inj h6
   subst h6
   refine aG (bM rfl ⟨rfl, rfl, rfl, rfl, trivial⟩ rfl)
 ·refine aG ?_
  refine cA rfl (fun c7 => ?_) (fun c7 => ?_)
  ·have h := jE c7 h
   refine aC ?_
   refine tr1 rfl (aH (v := .d (.lit (.int .i64 1))) (aA rfl) rfl rfl) ?_
   refine aG ?_
   refine aF ?_
   refine gN mix 5 [9] (fun X8 => [(8, eO cK r3.1), (33, .d (.lit (.int .i64 1)))]) (fun X8 => [.box b1 0 (bG t_0), .box b2 0 (aT (aI.mk round_2 place_3)), .box b4 0 (aT (aI.mk round_2 place_3))]) ?_ ?_
   ·refine ⟨0, fun X8 => [(31, 0, eO cK r3.1), (32, 1, .agg (aT (aI.mk round_2 place_3))), (33, 2, .d (.lit (.int .i64 1))), (8, 3, eO cK r3.1)], fun X8 => [([], .box b1 0 (bG t_0)), ([(4, .box b2 0 (aT (aI.mk round_2 place_3)))], .box b2 0 (aT (aI.mk 0 0))), ([], .box b4 0 (aT (aI.mk round_2 place_3)))], ?_, ?_⟩
    · exact ⟨by kernel_rfl, by kernel_rfl, by kernel_rfl, fun _ => by kernel_rfl, fun _ => by kernel_rfl, fun _ => by kernel_rfl, fun _ => rfl, [([], [4]), ([], [4]), ([], []), ([0], [4]), ([1], [])], by kernel_rfl, ⟨fun X8 S hw hi hS => bH (X := X8) rfl (hw X8) rfl (aJ rfl (aD (v := eO cK r3.1) (aA rfl) (aB hS rfl) rfl)),
      fun X8 S hw hi hS => bH (X := X8) rfl (hw X8) rfl (aJ rfl (bN (aA rfl) (aB hS rfl) (i := 2) (og hS rfl rfl) jZ (es := (aT (aI.mk round_2 place_3))) rfl rfl)),
      fun X8 S hw hi hS => bH (X := X8) rfl (hw X8) rfl (aJ rfl (aD (v := .d (.lit (.int .i64 1))) (aA rfl) (aB hS rfl) rfl)),
      fun X8 S hw hi hS => bH (X := X8) rfl (hw X8) rfl (aJ rfl (aH (v := eO cK r3.1) (aA rfl) (aB hS rfl) rfl)),
      fun X8 S hw hi hS => xZ (X := X8) hS rfl rfl rfl (p := 1) rfl rfl (aJ rfl (cM (i := 1) (aB hS rfl) (og hS rfl rfl) (aB hS rfl) rfl rfl Try.sizeOf112 rfl (aA rfl) (Nat.le_of_ble_eq_true rfl) (ds' := (aT (aI.mk round_2 place_3))) rfl)), trivial⟩⟩
    · exact fun X8 => dE (aU rfl (aU rfl (bC ⟨rfl, trivial⟩)))
   ·intro X8
    refine tr1 rfl (aH (v := .d (.lit (.int .i64 1))) (aA rfl) rfl rfl) ?_
    refine aG ?_
    exact bU ⟨rfl, _, [], [.box b1 0 (bG t_0), .box b2 0 (aT (aI.mk round_2 place_3)), .box b4 0 (aT (aI.mk round_2 place_3))], _, .three (.tmp 8 (v := eO cK r3.1) rfl) (.cell 9 112 rfl (i := 1) rfl jZ (es := (aT (aI.mk round_2 place_3))) rfl rfl) (.tmp 10 (v := .d (.lit (.int .i64 1))) rfl), .refl _, .same _, (r3.1, (aI.mk round_2 place_3), 1), h, rfl, rfl⟩
  ·have h := jD c7 h
   refine bX ?_
   refine aF ?_
   refine gN mix 5 [9] (fun X9 => [(8, eO cK r3.1), (33, .d (.lit (.int .i64 r3.2)))]) (fun X9 => [.box b1 0 (bG t_0), .box b2 0 (aT (aI.mk round_2 place_3)), .box b4 0 (aT (aI.mk round_2 place_3))]) ?_ ?_
   ·refine ⟨0, fun X9 => [(31, 0, eO cK r3.1), (32, 1, .agg (aT (aI.mk round_2 place_3))), (33, 2, .d (.lit (.int .i64 r3.2))), (8, 3, eO cK r3.1)], fun X9 => [([], .box b1 0 (bG t_0)), ([(4, .box b2 0 (aT (aI.mk round_2 place_3)))], .box b2 0 (aT (aI.mk 0 0))), ([], .box b4 0 (aT (aI.mk round_2 place_3)))], ?_, ?_⟩
    · exact ⟨by kernel_rfl, by kernel_rfl, by kernel_rfl, fun _ => by kernel_rfl, fun _ => by kernel_rfl, fun _ => by kernel_rfl, fun _ => rfl, [([], [4]), ([], [4]), ([], []), ([0], [4]), ([1], [])], by kernel_rfl, ⟨fun X9 S hw hi hS => bH (X := X9) rfl (hw X9) rfl (aJ rfl (aD (v := eO cK r3.1) (aA rfl) (aB hS rfl) rfl)),
      fun X9 S hw hi hS => bH (X := X9) rfl (hw X9) rfl (aJ rfl (bN (aA rfl) (aB hS rfl) (i := 2) (og hS rfl rfl) jZ (es := (aT (aI.mk round_2 place_3))) rfl rfl)),
      fun X9 S hw hi hS => bH (X := X9) rfl (hw X9) rfl (aJ rfl (aD (v := .d (.lit (.int .i64 r3.2))) (aA rfl) (aB hS rfl) rfl)),
      fun X9 S hw hi hS => bH (X := X9) rfl (hw X9) rfl (aJ rfl (aH (v := eO cK r3.1) (aA rfl) (aB hS rfl) rfl)),
      fun X9 S hw hi hS => xZ (X := X9) hS rfl rfl rfl (p := 1) rfl rfl (aJ rfl (cM (i := 1) (aB hS rfl) (og hS rfl rfl) (aB hS rfl) rfl rfl Try.sizeOf112 rfl (aA rfl) (Nat.le_of_ble_eq_true rfl) (ds' := (aT (aI.mk round_2 place_3))) rfl)), trivial⟩⟩
    · exact fun X9 => dE (aU rfl (aU rfl (bC ⟨rfl, trivial⟩)))
   ·intro X9
    refine tr1 rfl (aH (v := .d (.lit (.int .i64 r3.2))) (aA rfl) rfl rfl) ?_
    refine aG ?_
    exact bU ⟨rfl, _, [], [.box b1 0 (bG t_0), .box b2 0 (aT (aI.mk round_2 place_3)), .box b4 0 (aT (aI.mk round_2 place_3))], _, .three (.tmp 8 (v := eO cK r3.1) rfl) (.cell 9 112 rfl (i := 1) rfl jZ (es := (aT (aI.mk round_2 place_3))) rfl rfl) (.tmp 10 (v := .d (.lit (.int .i64 r3.2))) rfl), .refl _, .same _, (r3.1, (aI.mk round_2 place_3), r3.2), h, rfl, rfl⟩

theorem aCt (t_0 : bD) (l_1 : List aK) (round_2 : Int) (place_3 : Int) {Q : (Int × Int) → Prop} (h : oD t_0 l_1 round_2 place_3 Q) : gF Try.prog 45 [.agg (bG t_0), .d (.sl 5 (l_1.map aS)), .d (.lit (.int .i64 round_2)), .d (.lit (.int .i64 place_3))] [] (fun r' o' => ∃ (r : Int × Int), Q r ∧ r' = .tup [.d (.lit (.int .i64 r.1)), .d (.lit (.int .i64 r.2))] ∧ o' = []) := by
 unfold oD at h
 refine lH Try.func45 rfl (rs := [.tmp 8, .tmp 9]) Try.results45 Try.ntmps45 (Nat.le_of_ble_eq_true rfl) ?_
 refine aF ?_
 refine aC ?_
 refine cE rfl (eC (v := .agg (bG t_0)) (aA rfl) rfl rfl rfl) ?_
 rintro _ ⟨b1, rfl⟩
 refine tr1 rfl (aH (v := .d (.lit (.int .i64 0))) (aA rfl) rfl rfl) ?_
 refine tr1 rfl (aH (v := .d (.lit (.int .i64 0))) (aA rfl) rfl rfl) ?_
 refine aG ?_
 refine aF ?_
 refine aC ?_
 refine tr1 rfl (bN (aA rfl) rfl (i := 0) rfl fO (es := (bG t_0)) rfl rfl) ?_
 refine tr1 rfl (aD (v := .d (.sl 5 (l_1.map aS))) (aA rfl) rfl rfl) ?_
 refine tr1 rfl (aD (v := .d (.lit (.int .i64 round_2))) (aA rfl) rfl rfl) ?_
 refine tr1 rfl (aD (v := .d (.lit (.int .i64 place_3))) (aA rfl) rfl rfl) ?_
 refine cE rfl (uX (aA rfl) (.func _ _ Try.call83) rfl rfl (aGy _ _ _ _ h)) ?_
 rintro _ ⟨_, _, ⟨r2, h, rfl, rfl⟩, rfl⟩
 refine tr1 rfl (aD (v := .tup [eO cK r2.1, .agg (aT r2.2.1), .d (.lit (.int .i64 r2.2.2))]) (aA rfl) rfl rfl) ?_
 refine tr1 rfl (cD (aA rfl) rfl rfl) ?_
 refine tr1 rfl (cD (aA rfl) rfl rfl) ?_
 refine tr1 rfl (cD (aA rfl) rfl rfl) ?_
 refine cE rfl (dM (zs := [.lit (.int .i64 0), .lit (.int .i64 0)]) (aA rfl) Try.zeroValue112 rfl rfl) ?_
 rintro _ ⟨b3, rfl⟩
 refine tr1 rfl (aH (v := eO cK r2.1) (aA rfl) rfl rfl) ?_
 refine tr1 rfl (cM (i := 1) rfl rfl rfl rfl rfl Try.sizeOf112 rfl (aA rfl) (Nat.le_of_ble_eq_true rfl) (ds' := (aT r2.2.1)) rfl) ?_
 refine tr1 rfl (aH (v := .d (.lit (.int .i64 r2.2.2))) (aA rfl) rfl rfl) ?_
 refine aG ?_
 refine aF ?_
 refine aF ?_
 refine aC ?_
 refine tr1 rfl (aD (v := .d (.lit (.int .i64 r2.2.2))) (aA rfl) rfl rfl) ?_
 refine tr1 rfl (bR (aA rfl) rfl rfl rfl) ?_
 refine aG ?_
 refine cA rfl (fun c4 => ?_) (fun c4 => ?_)
 ·have h := jE c4 h
  refine aF ?_
  refine aC ?_
  refine tr1 rfl (aD (v := .d (.lit (.int .i64 r2.2.2))) (aA rfl) rfl rfl) ?_
  refine tr1 rfl (aH (v := .d (.lit (.int .i64 0))) (aA rfl) rfl rfl) ?_
  refine tr1 rfl (aH (v := .d (.lit (.int .i64 r2.2.2))) (aA rfl) rfl rfl) ?_
  refine aG ?_
  exact bU ⟨rfl, _, [], [.box b1 0 (bG t_0), .box b3 0 (aT r2.2.1)], _, .two (.tmp 8 (v := .d (.lit (.int .i64 0))) rfl) (.tmp 9 (v := .d (.lit (.int .i64 r2.2.2))) rfl), .refl _, .same _, (0, r2.2.2), h, rfl, rfl⟩
 ·have h := jD c4 h
  refine bX ?_
  refine aF ?_
  obtain ⟨x5, h6, h⟩ := jF h
  refine eD mix 10 [] [(13, .d (.lit (.int .i64 ((dK r2.2.1 0 x5.won))))), (35, .d (.lit (.bool ((eF r2.2.1 x5.won)))))] ?_ ?_
  ·refine ⟨[(28, 0, eO cK r2.1), (29, 1, .cp [.lit (.int .i64 x5.Tree.Rounds), .sl 1 (x5.Tree.Slots.map aP), .sl 1 (x5.players.map aP), .mp false (x5.won.map fun p : aI × Int => ((fun a : aI => Value.agg ((aT a).map cH).toArray) p.1, aP p.2))]), (30, 2, .cp [.mp false (x5.won.map fun p : aI × Int => ((fun a : aI => Value.agg ((aT a).map cH).toArray) p.1, aP p.2))]), (31, 3, .d (.mp false (x5.won.map fun p : aI × Int => ((fun a : aI => Value.agg ((aT a).map cH).toArray) p.1, aP p.2)))), (32, 4, .agg (aT r2.2.1)), (33, 5, .tup [.d (.lit (.int .i64 ((dK r2.2.1 0 x5.won)))), .d (.lit (.bool ((eF r2.2.1 x5.won))))]), (27, 6, .tup [.d (.lit (.int .i64 ((dK r2.2.1 0 x5.won)))), .d (.lit (.bool ((eF r2.2.1 x5.won))))]), (34, 7, .d (.lit (.int .i64 ((dK r2.2.1 0 x5.won))))), (35, 8, .d (.lit (.bool ((eF r2.2.1 x5.won))))), (13, 9, .d (.lit (.int .i64 ((dK r2.2.1 0 x5.won)))))], ?_, ?_⟩
   · exact ⟨by kernel_rfl, by kernel_rfl, by kernel_rfl, by kernel_rfl, by kernel_rfl, [([], []), ([0], []), ([1], []), ([2], []), ([], []), ([3, 4], []), ([5], []), ([6], []), ([6], []), ([7], [])], by kernel_rfl, ⟨fun S hS => aE rfl (aJ rfl (aD (v := eO cK r2.1) (aA rfl) (aB hS rfl) rfl)),
      fun S hS => aE rfl (aJ rfl (aIx (enc := cK) (aA rfl) (aB hS rfl) h6)),
      fun S hS => aE rfl (aJ rfl (cG (aA rfl) (aB hS rfl) wF (es := [.mp false (x5.won.map fun p : aI × Int => ((fun a : aI => Value.agg ((aT a).map cH).toArray) p.1, aP p.2))]) rfl)),
      fun S hS => aE rfl (aJ rfl (bZ (aA rfl) (aB hS rfl) aBt)),
      fun S hS => aE rfl (aJ rfl (bN (aA rfl) (aB hS rfl) (i := 1) rfl jZ (es := (aT r2.2.1)) rfl rfl)),
      fun S hS => aE rfl (aJ rfl (zQ (enc := aP) (agg := false) (l := x5.won) (z := 0) (a := r2.2.1) (aA rfl) uW Try.underlying116 Try.zeroValue3 (fun _ _ => .d (.lit _ rfl)) (aB hS rfl) rfl rfl (aB hS rfl) (kU (enc := aT) r2.2.1 rfl))),
      fun S hS => aE rfl (aJ rfl (aD (v := .tup [.d (.lit (.int .i64 ((dK r2.2.1 0 x5.won)))), .d (.lit (.bool ((eF r2.2.1 x5.won))))]) (aA rfl) (aB hS rfl) rfl)),
      fun S hS => aE rfl (aJ rfl (cD (aA rfl) (aB hS rfl) rfl)),
      fun S hS => aE rfl (aJ rfl (cD (aA rfl) (aB hS rfl) rfl)),
      fun S hS => aE rfl (aJ rfl (aH (v := .d (.lit (.int .i64 ((dK r2.2.1 0 x5.won))))) (aA rfl) (aB hS rfl) rfl)), trivial⟩⟩
   · exact dE (aU rfl (aU rfl (bC trivial)))
  ·refine tr1 rfl (aH (v := .d (.lit (.bool ((eF r2.2.1 x5.won))))) (aA rfl) rfl rfl) ?_
   refine aG ?_
   refine aF ?_
   refine aF ?_
   refine aC ?_
   refine tr1 rfl (aD (v := .d (.lit (.bool ((eF r2.2.1 x5.won))))) (aA rfl) rfl rfl) ?_
   refine tr1 rfl (dZ (aA rfl) rfl) ?_
   refine aG ?_
   refine cA rfl (fun c7 => ?_) (fun c7 => ?_)
   ·have h := jE c7 h
    refine aF ?_
    refine aC ?_
    refine tr1 rfl (aH (v := .d (.lit (.int .i64 0))) (aA rfl) rfl rfl) ?_
    refine tr1 rfl (aH (v := .d (.lit (.int .i64 3))) (aA rfl) rfl rfl) ?_
    refine aG ?_
    exact bU ⟨rfl, _, [], [.box b1 0 (bG t_0), .box b3 0 (aT r2.2.1)], _, .two (.tmp 8 (v := .d (.lit (.int .i64 0))) rfl) (.tmp 9 (v := .d (.lit (.int .i64 3))) rfl), .refl _, .same _, (0, 3), h, rfl, rfl⟩
   ·have h := jD c7 h
    refine bX ?_
    refine aF ?_
    refine aC ?_
    refine tr1 rfl (aD (v := .d (.lit (.int .i64 ((dK r2.2.1 0 x5.won))))) (aA rfl) rfl rfl) ?_
    refine tr1 rfl (aH (v := .d (.lit (.int .i64 ((dK r2.2.1 0 x5.won))))) (aA rfl) rfl rfl) ?_
    refine tr1 rfl (aH (v := .d (.lit (.int .i64 0))) (aA rfl) rfl rfl) ?_
    refine aG ?_
    exact bU ⟨rfl, _, [], [.box b1 0 (bG t_0), .box b3 0 (aT r2.2.1)], _, .two (.tmp 8 (v := .d (.lit (.int .i64 ((dK r2.2.1 0 x5.won))))) rfl) (.tmp 9 (v := .d (.lit (.int .i64 0))) rfl), .refl _, .same _, (dK r2.2.1 0 x5.won, 0), h, rfl, rfl⟩

theorem gL (n_0 : Int) (low_1 : Int) (high_2 : Int) {r : Bool} (h : eZ n_0 low_1 high_2 = some r) : Fn Try.prog 114 [.d (.lit (.int .i64 n_0)), .d (.lit (.int .i64 low_1)), .d (.lit (.int .i64 high_2))] (.d (.lit (.bool r))) := by
 unfold eZ at h
 refine Fn.of_tr Try.func114 rfl (rs := [.tmp 6]) Try.results114 Try.ntmps114 (Nat.le_of_ble_eq_true rfl) ?_
 refine aF ?_
 refine aC ?_
 refine tr1 rfl (aH (v := .d (.lit (.bool false))) (aA rfl) rfl rfl) ?_
 refine aG ?_
 refine aF ?_
 refine aC ?_
 refine tr1 rfl (aD (v := .d (.lit (.int .i64 n_0))) (aA rfl) rfl rfl) ?_
 refine tr1 rfl (aD (v := .d (.lit (.int .i64 low_1))) (aA rfl) rfl rfl) ?_
 refine tr1 rfl (bR (aA rfl) rfl rfl rfl) ?_
 refine tr1 rfl (aD (v := .d (.lit (.bool ((decide (low_1 ≤ n_0)))))) (aA rfl) rfl rfl) ?_
 obtain ⟨b1, h2, h⟩ := bind_some h
 refine cS 4 [] 14 b1 ?_ ?_
 ·refine bY (decide (low_1 ≤ n_0)) (fun c3 => ?_) (fun c3 => ?_)
  ·have h2 := aX c3 h2
   refine aM rfl rfl (aA rfl) rfl c3 (aD (v := .d (.lit (.int .i64 n_0))) (aA rfl) rfl rfl) ?_
   refine aM rfl rfl (aA rfl) rfl c3 (aD (v := .d (.lit (.int .i64 high_2))) (aA rfl) rfl rfl) ?_
   refine aM rfl rfl (aA rfl) rfl c3 (bR (aA rfl) rfl rfl rfl) ?_
   refine tr1 rfl (cC (v := .d (.lit (.bool ((decide (n_0 ≤ high_2)))))) (aA rfl) rfl c3 rfl rfl) ?_
   have h2 := Option.some.inj h2
   subst h2
   refine aG (bM rfl trivial rfl)
  ·have h2 := aY c3 h2
   refine aO rfl rfl (aA rfl) rfl (aA rfl) rfl c3 ?_
   refine aO rfl rfl (aA rfl) rfl (aA rfl) rfl c3 ?_
   refine aO rfl rfl (aA rfl) rfl (aA rfl) rfl c3 ?_
   refine tr1 rfl (cB (v := .d (.lit (.bool false))) (aA rfl) rfl c3 rfl rfl) ?_
   have h2 := Option.some.inj h2
   subst h2
   refine aG (bM rfl trivial rfl)
 ·refine tr1 rfl (aH (v := .d (.lit (.bool b1))) (aA rfl) rfl rfl) ?_
  refine aG ?_
  have h := Option.some.inj h
  subst h
  exact bU ⟨rfl, _, .one _, rfl, rfl⟩

theorem zS (t_0 : bD) {r : Bool} (h : kS t_0 = some r) : Fn Try.prog 97 [.agg (bG t_0)] (.d (.lit (.bool r))) := by
 unfold kS at h
 refine Fn.of_tr Try.func97 rfl (rs := [.tmp 2]) Try.results97 Try.ntmps97 (Nat.le_of_ble_eq_true rfl) ?_
 refine aF ?_
 refine aC ?_
 refine cE rfl (eC (v := .agg (bG t_0)) (aA rfl) rfl rfl rfl) ?_
 rintro _ ⟨b1, rfl⟩
 refine tr1 rfl (aH (v := .d (.lit (.bool false))) (aA rfl) rfl rfl) ?_
 refine aG ?_
 refine aF ?_
 refine aF ?_
 refine aC ?_
 refine tr1 rfl (aN (aA rfl) rfl kL) ?_
 refine tr1 rfl (aR (aA rfl) rfl (i := 0) rfl rfl bL) ?_
 obtain ⟨r2, h3, h⟩ := bind_some h
 refine tr1 rfl (cL (aA rfl) (.func _ _ Try.call114) rfl rfl (BVs.refl _ _) (gL _ _ _ h3) rfl) ?_
 refine tr1 rfl (dZ (aA rfl) rfl) ?_
 refine tr1 rfl (aD (v := .d (.lit (.bool (!r2)))) (aA rfl) rfl rfl) ?_
 obtain ⟨b4, h5, h⟩ := bind_some h
 refine cS 9 [1] 18 b4 ?_ ?_
 ·refine bY (!r2) (fun c41 => ?_) (fun c41 => ?_)
  ·have h5 := aX c41 h5
   refine aO rfl rfl (aA rfl) rfl (aA rfl) rfl c41 ?_
   refine aO rfl rfl (aA rfl) rfl (aA rfl) rfl c41 ?_
   refine aO rfl rfl (aA rfl) rfl (aA rfl) rfl c41 ?_
   refine aO rfl rfl (aA rfl) rfl (aA rfl) rfl c41 ?_
   refine aO rfl rfl (aA rfl) rfl (aA rfl) rfl c41 ?_
   refine aO rfl rfl (aA rfl) rfl (aA rfl) rfl c41 ?_
   refine aO rfl rfl (aA rfl) rfl (aA rfl) rfl c41 ?_
   refine aO rfl rfl (aA rfl) rfl (aA rfl) rfl c41 ?_
   refine tr1 rfl (cC (v := .d (.lit (.bool true))) (aA rfl) rfl c41 rfl rfl) ?_
   have h5 := Option.some.inj h5
   subst h5
   refine aG (bM rfl ⟨rfl, trivial⟩ rfl)
  ·have h5 := aY c41 h5
   refine aM rfl rfl (aA rfl) rfl c41 (aN (aA rfl) rfl eT) ?_
   refine aM rfl rfl (aA rfl) rfl c41 (aR (aA rfl) rfl (i := 0) rfl rfl dF) ?_
   refine aM rfl rfl (aA rfl) rfl c41 (dC (aA rfl) rfl cT.of) ?_
   refine aM rfl rfl (aA rfl) rfl c41 (aN (aA rfl) rfl kL) ?_
   refine aM rfl rfl (aA rfl) rfl c41 (aR (aA rfl) rfl (i := 0) rfl rfl bL) ?_
   refine aM rfl rfl (aA rfl) rfl c41 (aEq (aA rfl) rfl Try.runUnderlying3 Try.runUnderlying166) ?_
   obtain ⟨u42, h43, h5⟩ := bind_some h5
   refine aM rfl rfl (aA rfl) rfl c41 (aBy (aA rfl) rfl rfl (rB h43)) ?_
   refine aM rfl rfl (aA rfl) rfl c41 (bR (aA rfl) rfl rfl rfl) ?_
   refine tr1 rfl (cB (v := .d (.lit (.bool ((!decide ((t_0.Slots.length : Int) = (w64 (1 * 2 ^ (min (IntKind.u64.wrap t_0.Rounds).toNat 64))))))))) (aA rfl) rfl c41 rfl rfl) ?_
   have h5 := Option.some.inj h5
   subst h5
   refine aG (bM rfl ⟨rfl, trivial⟩ rfl)
 ·refine aG ?_
  refine cA rfl (fun c6 => ?_) (fun c6 => ?_)
  ·have h := aX c6 h
   refine aF ?_
   refine aC ?_
   refine tr1 rfl (aH (v := .d (.lit (.bool false))) (aA rfl) rfl rfl) ?_
   refine aG ?_
   have h := Option.some.inj h
   subst h
   refine cQ (cF (cN (l := [2]) ⟨rfl, trivial⟩)) ?_
   exact bU ⟨rfl, _, .one _, rfl, rfl⟩
  ·have h := aY c6 h
   refine bX ?_
   refine aF ?_
   refine aF ?_
   refine aC ?_
   refine tr1 rfl (aH (v := .d (.lit (.int .i64 0))) (aA rfl) rfl rfl) ?_
   refine aG ?_
   refine cO ?_
   refine dG [1] (fun (s7 : Int) => [(3, .d (.lit (.int .i64 s7)))]) (fun (s7 : Int) => [.box b1 0 (bG t_0)]) (fun (k : Nat) (s7 : Int) => fU t_0 k s7) (fun _ => rfl) (0) h (bE [0] rfl rfl (aU rfl (bC ⟨rfl, trivial⟩))) ?_
   rintro k8 i_0_7 h
   simp only [fU] at h
   refine aF ?_
   refine aF ?_
   refine aC ?_
   refine tr1 rfl (aD (v := .d (.lit (.int .i64 i_0_7))) (aA rfl) rfl rfl) ?_
   refine tr1 rfl (aN (aA rfl) rfl eT) ?_
   refine tr1 rfl (aR (aA rfl) rfl (i := 0) rfl rfl dF) ?_
   refine tr1 rfl (dC (aA rfl) rfl cT.of) ?_
   refine tr1 rfl (bR (aA rfl) rfl rfl rfl) ?_
   refine aG ?_
   refine cA rfl (fun c9 => ?_) (fun c9 => ?_)
   ·have h := aX c9 h
    refine bX ?_
    refine aF ?_
    refine cO ?_
    refine aF ?_
    refine aF ?_
    refine aC ?_
    refine tr1 rfl (aN (aA rfl) rfl eT) ?_
    refine tr1 rfl (aR (aA rfl) rfl (i := 0) rfl rfl dF) ?_
    refine tr1 rfl (aD (v := .d (.lit (.int .i64 i_0_7))) (aA rfl) rfl rfl) ?_
    obtain ⟨x10, h11, h⟩ := bind_some h
    refine tr1 rfl (bJ (aA rfl) rfl rfl cT.of (bP aP h11)) ?_
    refine tr1 rfl (bZ (aA rfl) rfl bL) ?_
    obtain ⟨r12, h13, h⟩ := bind_some h
    refine tr1 rfl (cL (aA rfl) (.func _ _ Try.call114) rfl rfl (BVs.refl _ _) (gL _ _ _ h13) rfl) ?_
    refine tr1 rfl (dZ (aA rfl) rfl) ?_
    refine tr1 rfl (aD (v := .d (.lit (.bool (!r12)))) (aA rfl) rfl rfl) ?_
    obtain ⟨b14, h15, h⟩ := bind_some h
    refine cS 21 [1, 3] 54 b14 ?_ ?_
    ·refine bY (!r12) (fun c30 => ?_) (fun c30 => ?_)
     ·have h15 := aX c30 h15
      refine aO rfl rfl (aA rfl) rfl (aA rfl) rfl c30 ?_
      refine aO rfl rfl (aA rfl) rfl (aA rfl) rfl c30 ?_
      refine aO rfl rfl (aA rfl) rfl (aA rfl) rfl c30 ?_
      refine aO rfl rfl (aA rfl) rfl (aA rfl) rfl c30 ?_
      refine eE rfl rfl (aA rfl) rfl (aA rfl) rfl ?_
      refine eE rfl rfl (aA rfl) rfl (aA rfl) rfl ?_
      refine eE rfl rfl (aA rfl) rfl (aA rfl) rfl ?_
      refine eE rfl rfl (aA rfl) rfl (aA rfl) rfl ?_
      refine eE rfl rfl (aA rfl) rfl (aA rfl) rfl ?_
      refine eE rfl rfl (aA rfl) rfl (aA rfl) rfl ?_
      refine aO rfl rfl (aA rfl) rfl (aA rfl) rfl c30 ?_
      refine aO rfl rfl (aA rfl) rfl (aA rfl) rfl c30 ?_
      refine eE rfl rfl (aA rfl) rfl (aA rfl) rfl ?_
      refine eE rfl rfl (aA rfl) rfl (aA rfl) rfl ?_
      refine eE rfl rfl (aA rfl) rfl (aA rfl) rfl ?_
      refine eE rfl rfl (aA rfl) rfl (aA rfl) rfl ?_
      refine eE rfl rfl (aA rfl) rfl (aA rfl) rfl ?_
      refine eE rfl rfl (aA rfl) rfl (aA rfl) rfl ?_
      refine eE rfl rfl (aA rfl) rfl (aA rfl) rfl ?_
      refine aO rfl rfl (aA rfl) rfl (aA rfl) rfl c30 ?_
      refine tr1 rfl (cC (v := .d (.lit (.bool true))) (aA rfl) rfl c30 rfl rfl) ?_
      have h15 := Option.some.inj h15
      subst h15
      refine aG (bM rfl ⟨rfl, rfl, trivial⟩ rfl)
     ·have h15 := aY c30 h15
      refine aM rfl rfl (aA rfl) rfl c30 (aD (v := .d (.lit (.int .i64 i_0_7))) (aA rfl) rfl rfl) ?_
      refine aM rfl rfl (aA rfl) rfl c30 (aQd (aA rfl) rfl rfl (by decide)) ?_
      refine aM rfl rfl (aA rfl) rfl c30 (bR (aA rfl) rfl rfl rfl) ?_
      refine aM rfl rfl (aA rfl) rfl c30 (aD (v := .d (.lit (.bool ((decide ((i_0_7.tmod 2) = 1)))))) (aA rfl) rfl rfl) ?_
      obtain ⟨b31, h32, h15⟩ := bind_some h15
      refine cS 7 [1, 3, 33, 34, 35, 36, 37] 44 b31 ?_ ?_
      ·refine bY (decide ((i_0_7.tmod 2) = 1)) (fun c38 => ?_) (fun c38 => ?_)
       ·have h32 := aX c38 h32
        refine aM rfl rfl (aA rfl) rfl c38 (aN (aA rfl) rfl eT) ?_
        refine aM rfl rfl (aA rfl) rfl c38 (aR (aA rfl) rfl (i := 0) rfl rfl dF) ?_
        refine aM rfl rfl (aA rfl) rfl c38 (aD (v := .d (.lit (.int .i64 i_0_7))) (aA rfl) rfl rfl) ?_
        obtain ⟨x39, h40, h32⟩ := bind_some h32
        refine aM rfl rfl (aA rfl) rfl c38 (bJ (aA rfl) rfl rfl cT.of (bP aP h40)) ?_
        refine aM rfl rfl (aA rfl) rfl c38 (bZ (aA rfl) rfl bL) ?_
        refine aM rfl rfl (aA rfl) rfl c38 (bR (aA rfl) rfl rfl rfl) ?_
        refine aM rfl rfl (aA rfl) rfl c30 (cC (v := .d (.lit (.bool ((decide (x39 = (-1))))))) (aA rfl) rfl c38 rfl rfl) ?_
        have h32 := Option.some.inj h32
        subst h32
        refine aG (bM rfl ⟨rfl, rfl, rfl, rfl, rfl, rfl, rfl, trivial⟩ rfl)
       ·have h32 := aY c38 h32
        refine aO rfl rfl (aA rfl) rfl (aA rfl) rfl c38 ?_
        refine aO rfl rfl (aA rfl) rfl (aA rfl) rfl c38 ?_
        refine aO rfl rfl (aA rfl) rfl (aA rfl) rfl c38 ?_
        refine aO rfl rfl (aA rfl) rfl (aA rfl) rfl c38 ?_
        refine aO rfl rfl (aA rfl) rfl (aA rfl) rfl c38 ?_
        refine aO rfl rfl (aA rfl) rfl (aA rfl) rfl c38 ?_
        refine aM rfl rfl (aA rfl) rfl c30 (cB (v := .d (.lit (.bool false))) (aA rfl) rfl c38 rfl rfl) ?_
        have h32 := Option.some.inj h32
        subst h32
        refine aG (bM rfl ⟨rfl, rfl, rfl, rfl, rfl, rfl, rfl, trivial⟩ rfl)
      ·refine aM rfl rfl (aA rfl) rfl c30 (aD (v := .d (.lit (.bool b31))) (aA rfl) rfl rfl) ?_
       obtain ⟨b33, h34, h15⟩ := bind_some h15
       refine cS 8 [1, 3, 33, 34, 35, 36, 37, 44, 45] 53 b33 ?_ ?_
       ·refine bY (b31) (fun c35 => ?_) (fun c35 => ?_)
        ·have h34 := aX c35 h34
         refine aM rfl rfl (aA rfl) rfl c35 (aN (aA rfl) rfl eT) ?_
         refine aM rfl rfl (aA rfl) rfl c35 (aR (aA rfl) rfl (i := 0) rfl rfl dF) ?_
         refine aM rfl rfl (aA rfl) rfl c35 (aD (v := .d (.lit (.int .i64 i_0_7))) (aA rfl) rfl rfl) ?_
         refine aM rfl rfl (aA rfl) rfl c35 (bT (aA rfl) rfl rfl rfl) ?_
         obtain ⟨x36, h37, h34⟩ := bind_some h34
         refine aM rfl rfl (aA rfl) rfl c35 (bJ (aA rfl) rfl rfl cT.of (bP aP h37)) ?_
         refine aM rfl rfl (aA rfl) rfl c35 (bZ (aA rfl) rfl bL) ?_
         refine aM rfl rfl (aA rfl) rfl c35 (bR (aA rfl) rfl rfl rfl) ?_
         refine aM rfl rfl (aA rfl) rfl c30 (cC (v := .d (.lit (.bool ((decide (x36 = (-1))))))) (aA rfl) rfl c35 rfl rfl) ?_
         have h34 := Option.some.inj h34
         subst h34
         refine aG (bM rfl ⟨rfl, rfl, rfl, rfl, rfl, rfl, rfl, rfl, rfl, trivial⟩ rfl)
        ·have h34 := aY c35 h34
         refine aO rfl rfl (aA rfl) rfl (aA rfl) rfl c35 ?_
         refine aO rfl rfl (aA rfl) rfl (aA rfl) rfl c35 ?_
         refine aO rfl rfl (aA rfl) rfl (aA rfl) rfl c35 ?_
         refine aO rfl rfl (aA rfl) rfl (aA rfl) rfl c35 ?_
         refine aO rfl rfl (aA rfl) rfl (aA rfl) rfl c35 ?_
         refine aO rfl rfl (aA rfl) rfl (aA rfl) rfl c35 ?_
         refine aO rfl rfl (aA rfl) rfl (aA rfl) rfl c35 ?_
         refine aM rfl rfl (aA rfl) rfl c30 (cB (v := .d (.lit (.bool false))) (aA rfl) rfl c35 rfl rfl) ?_
         have h34 := Option.some.inj h34
         subst h34
         refine aG (bM rfl ⟨rfl, rfl, rfl, rfl, rfl, rfl, rfl, rfl, rfl, trivial⟩ rfl)
       ·refine tr1 rfl (cB (v := .d (.lit (.bool b33))) (aA rfl) rfl c30 rfl rfl) ?_
        have h15 := Option.some.inj h15
        subst h15
        refine aG (bM rfl ⟨rfl, rfl, trivial⟩ rfl)
    ·refine aG ?_
     refine cA rfl (fun c16 => ?_) (fun c16 => ?_)
     ·have h := aX c16 h
      refine aF ?_
      refine aC ?_
      refine tr1 rfl (aH (v := .d (.lit (.bool false))) (aA rfl) rfl rfl) ?_
      refine aG ?_
      have h := Option.some.inj h
      subst h
      refine cQ (cF (cN (l := [2]) ⟨rfl, trivial⟩)) ?_
      exact bU ⟨rfl, _, .one _, rfl, rfl⟩
     ·have h := aY c16 h
      refine bX ?_
      refine aF ?_
      refine aC ?_
      refine tr1 rfl (aH (v := .d (.lit (.int .i64 0))) (aA rfl) rfl rfl) ?_
      refine aG ?_
      refine rS ?_
      refine dG [1, 3] (fun (s17 : Int) => [(4, .d (.lit (.int .i64 s17)))]) (fun (s17 : Int) => [.box b1 0 (bG t_0)]) (fun (k : Nat) (s17 : Int) => fV (fU t_0 k8) i_0_7 t_0 k s17) (fun _ => rfl) (0) h (bE [0] rfl rfl (aU rfl (bC ⟨rfl, rfl, trivial⟩))) ?_
      rintro k18 k_2_17 h
      simp only [fV] at h
      refine aF ?_
      refine aF ?_
      refine aC ?_
      refine tr1 rfl (aD (v := .d (.lit (.int .i64 k_2_17))) (aA rfl) rfl rfl) ?_
      refine tr1 rfl (aD (v := .d (.lit (.int .i64 i_0_7))) (aA rfl) rfl rfl) ?_
      refine tr1 rfl (bR (aA rfl) rfl rfl rfl) ?_
      refine aG ?_
      refine cA rfl (fun c19 => ?_) (fun c19 => ?_)
      ·have h := aX c19 h
       refine bX ?_
       refine aF ?_
       refine cO ?_
       refine aF ?_
       obtain ⟨x20, h21, h⟩ := bind_some h
       obtain ⟨x22, h23, h⟩ := bind_some h
       obtain ⟨b24, h25, h⟩ := bind_some h
       refine eD mix 19 [1, 3, 4] [(78, .d (.lit (.bool b24)))] ?_ ?_
       ·refine bY (decide (x20 = x22)) (fun c26 => ?_) (fun c26 => ?_)
        ·have h25 := aX c26 h25
         obtain ⟨x27, h28, h25⟩ := bind_some h25
         have h25 := Option.some.inj h25
         subst h25
         refine ⟨[(60, 0, .bp b1 0 1), (61, 1, .d (.sl 1 (t_0.Slots.map aP))), (62, 2, .d (.lit (.int .i64 k_2_17))), (63, 3, .cp [.lit (.int .i64 x20)]), (64, 4, .d (.lit (.int .i64 x20))), (65, 5, .bp b1 0 1), (66, 6, .d (.sl 1 (t_0.Slots.map aP))), (67, 7, .d (.lit (.int .i64 i_0_7))), (68, 8, .cp [.lit (.int .i64 x22)]), (69, 9, .d (.lit (.int .i64 x22))), (70, 10, .d (.lit (.bool ((decide (x20 = x22)))))), (71, 11, .d (.lit (.bool ((decide (x20 = x22)))))), (72, 12, .bp b1 0 1), (73, 13, .d (.sl 1 (t_0.Slots.map aP))), (74, 14, .d (.lit (.int .i64 i_0_7))), (75, 15, .cp [.lit (.int .i64 x27)]), (76, 16, .d (.lit (.int .i64 x27))), (77, 17, .d (.lit (.bool ((!decide (x27 = (-1))))))), (78, 18, .d (.lit (.bool ((!decide (x27 = (-1)))))))], ?_, ?_⟩
         · exact ⟨by kernel_rfl, by kernel_rfl, by kernel_rfl, by kernel_rfl, by kernel_rfl, [([], []), ([0], []), ([], []), ([1, 2], []), ([3], []), ([], []), ([5], []), ([], []), ([6, 7], []), ([8], []), ([4, 9], []), ([10], []), ([11], []), ([11, 12], []), ([11], []), ([11, 13, 14], []), ([11, 15], []), ([11, 16], []), ([11, 17], [])], by kernel_rfl, ⟨fun S hS => aE rfl (aJ rfl (aN (aA rfl) (aB hS rfl) eT)),
      fun S hS => aE rfl (aJ rfl (aR (aA rfl) (aB hS rfl) (i := 0) rfl rfl dF)),
      fun S hS => aE rfl (aJ rfl (aD (v := .d (.lit (.int .i64 k_2_17))) (aA rfl) (aB hS rfl) rfl)),
      fun S hS => aE rfl (aJ rfl (bJ (aA rfl) (aB hS rfl) (aB hS rfl) cT.of (bP aP h21))),
      fun S hS => aE rfl (aJ rfl (bZ (aA rfl) (aB hS rfl) bL)),
      fun S hS => aE rfl (aJ rfl (aN (aA rfl) (aB hS rfl) eT)),
      fun S hS => aE rfl (aJ rfl (aR (aA rfl) (aB hS rfl) (i := 0) rfl rfl dF)),
      fun S hS => aE rfl (aJ rfl (aD (v := .d (.lit (.int .i64 i_0_7))) (aA rfl) (aB hS rfl) rfl)),
      fun S hS => aE rfl (aJ rfl (bJ (aA rfl) (aB hS rfl) (aB hS rfl) cT.of (bP aP h23))),
      fun S hS => aE rfl (aJ rfl (bZ (aA rfl) (aB hS rfl) bL)),
      fun S hS => aE rfl (aJ rfl (bR (aA rfl) (aB hS rfl) (aB hS rfl) rfl)),
      fun S hS => aE rfl (aJ rfl (aD (v := .d (.lit (.bool ((decide (x20 = x22)))))) (aA rfl) (aB hS rfl) rfl)),
      fun S hS => aE rfl (bA rfl rfl (aA rfl) (aL hS rfl) c26 (aN (aA rfl) (aB hS rfl) eT)),
      fun S hS => aE rfl (bA rfl rfl (aA rfl) (aL hS rfl) c26 (aR (aA rfl) (aB hS rfl) (i := 0) rfl rfl dF)),
      fun S hS => aE rfl (bA rfl rfl (aA rfl) (aL hS rfl) c26 (aD (v := .d (.lit (.int .i64 i_0_7))) (aA rfl) (aB hS rfl) rfl)),
      fun S hS => aE rfl (bA rfl rfl (aA rfl) (aL hS rfl) c26 (bJ (aA rfl) (aB hS rfl) (aB hS rfl) cT.of (bP aP h28))),
      fun S hS => aE rfl (bA rfl rfl (aA rfl) (aL hS rfl) c26 (bZ (aA rfl) (aB hS rfl) bL)),
      fun S hS => aE rfl (bA rfl rfl (aA rfl) (aL hS rfl) c26 (bR (aA rfl) (aB hS rfl) rfl rfl)),
      fun S hS => aE rfl (aJ rfl (cC (v := .d (.lit (.bool ((!decide (x27 = (-1))))))) (aA rfl) (aB hS rfl) c26 (aB hS rfl) rfl)), trivial⟩⟩
         · exact dE (aU rfl (bC ⟨rfl, rfl, rfl, trivial⟩))
        ·have h25 := aY c26 h25
         have h25 := Option.some.inj h25
         subst h25
         refine ⟨[(60, 0, .bp b1 0 1), (61, 1, .d (.sl 1 (t_0.Slots.map aP))), (62, 2, .d (.lit (.int .i64 k_2_17))), (63, 3, .cp [.lit (.int .i64 x20)]), (64, 4, .d (.lit (.int .i64 x20))), (65, 5, .bp b1 0 1), (66, 6, .d (.sl 1 (t_0.Slots.map aP))), (67, 7, .d (.lit (.int .i64 i_0_7))), (68, 8, .cp [.lit (.int .i64 x22)]), (69, 9, .d (.lit (.int .i64 x22))), (70, 10, .d (.lit (.bool ((decide (x20 = x22)))))), (71, 11, .d (.lit (.bool ((decide (x20 = x22)))))), (72, 12, .tup []), (73, 13, .tup []), (74, 14, .tup []), (75, 15, .tup []), (76, 16, .tup []), (77, 17, .tup []), (78, 18, .d (.lit (.bool false)))], ?_, ?_⟩
         · exact ⟨by kernel_rfl, by kernel_rfl, by kernel_rfl, by kernel_rfl, by kernel_rfl, [([], []), ([0], []), ([], []), ([1, 2], []), ([3], []), ([], []), ([5], []), ([], []), ([6, 7], []), ([8], []), ([4, 9], []), ([10], []), ([11], []), ([11, 12], []), ([11], []), ([11, 13, 14], []), ([11, 15], []), ([11, 16], []), ([11, 17], [])], by kernel_rfl, ⟨fun S hS => aE rfl (aJ rfl (aN (aA rfl) (aB hS rfl) eT)),
      fun S hS => aE rfl (aJ rfl (aR (aA rfl) (aB hS rfl) (i := 0) rfl rfl dF)),
      fun S hS => aE rfl (aJ rfl (aD (v := .d (.lit (.int .i64 k_2_17))) (aA rfl) (aB hS rfl) rfl)),
      fun S hS => aE rfl (aJ rfl (bJ (aA rfl) (aB hS rfl) (aB hS rfl) cT.of (bP aP h21))),
      fun S hS => aE rfl (aJ rfl (bZ (aA rfl) (aB hS rfl) bL)),
      fun S hS => aE rfl (aJ rfl (aN (aA rfl) (aB hS rfl) eT)),
      fun S hS => aE rfl (aJ rfl (aR (aA rfl) (aB hS rfl) (i := 0) rfl rfl dF)),
      fun S hS => aE rfl (aJ rfl (aD (v := .d (.lit (.int .i64 i_0_7))) (aA rfl) (aB hS rfl) rfl)),
      fun S hS => aE rfl (aJ rfl (bJ (aA rfl) (aB hS rfl) (aB hS rfl) cT.of (bP aP h23))),
      fun S hS => aE rfl (aJ rfl (bZ (aA rfl) (aB hS rfl) bL)),
      fun S hS => aE rfl (aJ rfl (bR (aA rfl) (aB hS rfl) (aB hS rfl) rfl)),
      fun S hS => aE rfl (aJ rfl (aD (v := .d (.lit (.bool ((decide (x20 = x22)))))) (aA rfl) (aB hS rfl) rfl)),
      fun S hS => aE rfl (aZ rfl rfl (aA rfl) rfl (aA rfl) (aL hS rfl) c26),
      fun S hS => aE rfl (aZ rfl rfl (aA rfl) rfl (aA rfl) (aL hS rfl) c26),
      fun S hS => aE rfl (aZ rfl rfl (aA rfl) rfl (aA rfl) (aL hS rfl) c26),
      fun S hS => aE rfl (aZ rfl rfl (aA rfl) rfl (aA rfl) (aL hS rfl) c26),
      fun S hS => aE rfl (aZ rfl rfl (aA rfl) rfl (aA rfl) (aL hS rfl) c26),
      fun S hS => aE rfl (aZ rfl rfl (aA rfl) rfl (aA rfl) (aL hS rfl) c26),
      fun S hS => aE rfl (aJ rfl (cB (v := .d (.lit (.bool false))) (aA rfl) (aB hS rfl) c26 rfl rfl)), trivial⟩⟩
         · exact dE (aU rfl (bC ⟨rfl, rfl, rfl, trivial⟩))
       ·refine aG ?_
        refine cA rfl (fun c29 => ?_) (fun c29 => ?_)
        ·have h := aX c29 h
         refine aF ?_
         refine aC ?_
         refine tr1 rfl (aH (v := .d (.lit (.bool false))) (aA rfl) rfl rfl) ?_
         refine aG ?_
         have h := Option.some.inj h
         subst h
         refine cQ (cF (cN (l := [2]) ⟨rfl, trivial⟩)) ?_
         exact bU ⟨rfl, _, .one _, rfl, rfl⟩
        ·have h := aY c29 h
         refine dY ?_
         refine aC ?_
         refine tr1 rfl (aD (v := .d (.lit (.int .i64 k_2_17))) (aA rfl) rfl rfl) ?_
         refine tr1 rfl (bT (aA rfl) rfl rfl rfl) ?_
         refine tr1 rfl (aH (v := .d (.lit (.int .i64 ((w64 (k_2_17 + 1)))))) (aA rfl) rfl rfl) ?_
         refine aG ?_
         exact ⟨(w64 (k_2_17 + 1)), h, bE [0] rfl rfl (aU rfl (bC ⟨rfl, rfl, trivial⟩))⟩
      ·have h := aY c19 h
       refine dA ?_
       refine .inl ⟨rfl, ?_⟩
       simp only [oZ] at h
       simp only [oY] at h
       refine aC ?_
       refine tr1 rfl (aD (v := .d (.lit (.int .i64 i_0_7))) (aA rfl) rfl rfl) ?_
       refine tr1 rfl (bT (aA rfl) rfl rfl rfl) ?_
       refine tr1 rfl (aH (v := .d (.lit (.int .i64 ((w64 (i_0_7 + 1)))))) (aA rfl) rfl rfl) ?_
       refine aG ?_
       exact ⟨(w64 (i_0_7 + 1)), h, bE [0] rfl rfl (aU rfl (bC ⟨rfl, trivial⟩))⟩
   ·have h := aY c9 h
    refine dA ?_
    refine .inl ⟨rfl, ?_⟩
    simp only [oX] at h
    refine aF ?_
    refine aC ?_
    refine tr1 rfl (aH (v := .d (.lit (.bool true))) (aA rfl) rfl rfl) ?_
    refine aG ?_
    have h := Option.some.inj h
    subst h
    refine cQ (cF (cN (l := [2]) ⟨rfl, trivial⟩)) ?_
    exact bU ⟨rfl, _, .one _, rfl, rfl⟩

theorem pH (t_0 : bD) (round_1 : Int) {r : Int} (h : jI t_0 round_1 = some r) : Fn Try.prog 117 [.agg (bG t_0), .d (.lit (.int .i64 round_1))] (.d (.lit (.int .i64 r))) := by
 unfold jI at h
 refine Fn.of_tr Try.func117 rfl (rs := [.tmp 4]) Try.results117 Try.ntmps117 (Nat.le_of_ble_eq_true rfl) ?_
 refine aF ?_
 refine aC ?_
 refine cE rfl (eC (v := .agg (bG t_0)) (aA rfl) rfl rfl rfl) ?_
 rintro _ ⟨b1, rfl⟩
 refine tr1 rfl (aH (v := .d (.lit (.int .i64 0))) (aA rfl) rfl rfl) ?_
 refine aG ?_
 refine aF ?_
 refine aC ?_
 refine tr1 rfl (aN (aA rfl) rfl kL) ?_
 refine tr1 rfl (aR (aA rfl) rfl (i := 0) rfl rfl bL) ?_
 refine tr1 rfl (bT (aA rfl) rfl rfl rfl) ?_
 refine tr1 rfl (aD (v := .d (.lit (.int .i64 round_1))) (aA rfl) rfl rfl) ?_
 refine tr1 rfl (bT (aA rfl) rfl rfl rfl) ?_
 refine tr1 rfl (aEq (aA rfl) rfl Try.runUnderlying3 Try.runUnderlying166) ?_
 obtain ⟨u2, h3, h⟩ := bind_some h
 refine tr1 rfl (aBy (aA rfl) rfl rfl (rB h3)) ?_
 refine tr1 rfl (aH (v := .d (.lit (.int .i64 ((w64 (1 * 2 ^ (min (IntKind.u64.wrap (w64 ((w64 (t_0.Rounds - 1)) - round_1))).toNat 64))))))) (aA rfl) rfl rfl) ?_
 refine aG ?_
 have h := Option.some.inj h
 subst h
 refine cQ (cF (cN (l := [4]) ⟨rfl, trivial⟩)) ?_
 exact bU ⟨rfl, _, .one _, rfl, rfl⟩

theorem rY (t_0 : bD) (round_1 : Int) (place_2 : Int) {r : Bool} (h : kA t_0 round_1 place_2 = some r) : Fn Try.prog 115 [.agg (bG t_0), .d (.lit (.int .i64 round_1)), .d (.lit (.int .i64 place_2))] (.d (.lit (.bool r))) := by
 unfold kA at h
 refine Fn.of_tr Try.func115 rfl (rs := [.tmp 6]) Try.results115 Try.ntmps115 (Nat.le_of_ble_eq_true rfl) ?_
 refine aF ?_
 refine aC ?_
 refine cE rfl (eC (v := .agg (bG t_0)) (aA rfl) rfl rfl rfl) ?_
 rintro _ ⟨b1, rfl⟩
 refine tr1 rfl (aH (v := .d (.lit (.bool false))) (aA rfl) rfl rfl) ?_
 refine aG ?_
 refine aF ?_
 refine aC ?_
 refine tr1 rfl (aD (v := .d (.lit (.int .i64 round_1))) (aA rfl) rfl rfl) ?_
 refine tr1 rfl (aN (aA rfl) rfl kL) ?_
 refine tr1 rfl (aR (aA rfl) rfl (i := 0) rfl rfl bL) ?_
 refine tr1 rfl (bT (aA rfl) rfl rfl rfl) ?_
 obtain ⟨r2, h3, h⟩ := bind_some h
 refine tr1 rfl (cL (aA rfl) (.func _ _ Try.call114) rfl rfl (BVs.refl _ _) (gL _ _ _ h3) rfl) ?_
 refine tr1 rfl (aD (v := .d (.lit (.bool r2))) (aA rfl) rfl rfl) ?_
 obtain ⟨b4, h5, h⟩ := bind_some h
 refine cS 7 [] 19 b4 ?_ ?_
 ·refine bY (r2) (fun c6 => ?_) (fun c6 => ?_)
  ·have h5 := aX c6 h5
   refine aM rfl rfl (aA rfl) rfl c6 (aD (v := .d (.lit (.int .i64 place_2))) (aA rfl) rfl rfl) ?_
   refine aM rfl rfl (aA rfl) rfl c6 (bN (aA rfl) rfl (i := 0) rfl fO (es := (bG t_0)) rfl rfl) ?_
   refine aM rfl rfl (aA rfl) rfl c6 (aD (v := .d (.lit (.int .i64 round_1))) (aA rfl) rfl rfl) ?_
   obtain ⟨r7, h8, h5⟩ := bind_some h5
   refine aM rfl rfl (aA rfl) rfl c6 (cL (aA rfl) (.func _ _ Try.call117) rfl rfl (BVs.refl _ _) (pH _ _ h8) rfl) ?_
   refine aM rfl rfl (aA rfl) rfl c6 (bT (aA rfl) rfl rfl rfl) ?_
   obtain ⟨r9, h10, h5⟩ := bind_some h5
   refine aM rfl rfl (aA rfl) rfl c6 (cL (aA rfl) (.func _ _ Try.call114) rfl rfl (BVs.refl _ _) (gL _ _ _ h10) rfl) ?_
   refine tr1 rfl (cC (v := .d (.lit (.bool r9))) (aA rfl) rfl c6 rfl rfl) ?_
   have h5 := Option.some.inj h5
   subst h5
   refine aG (bM rfl trivial rfl)
  ·have h5 := aY c6 h5
   refine aO rfl rfl (aA rfl) rfl (aA rfl) rfl c6 ?_
   refine aO rfl rfl (aA rfl) rfl (aA rfl) rfl c6 ?_
   refine aO rfl rfl (aA rfl) rfl (aA rfl) rfl c6 ?_
   refine aO rfl rfl (aA rfl) rfl (aA rfl) rfl c6 ?_
   refine aO rfl rfl (aA rfl) rfl (aA rfl) rfl c6 ?_
   refine aO rfl rfl (aA rfl) rfl (aA rfl) rfl c6 ?_
   refine tr1 rfl (cB (v := .d (.lit (.bool false))) (aA rfl) rfl c6 rfl rfl) ?_
   have h5 := Option.some.inj h5
   subst h5
   refine aG (bM rfl trivial rfl)
 ·refine tr1 rfl (aH (v := .d (.lit (.bool b4))) (aA rfl) rfl rfl) ?_
  refine aG ?_
  have h := Option.some.inj h
  subst h
  refine cQ (cF (cN (l := [6]) ⟨rfl, trivial⟩)) ?_
  exact bU ⟨rfl, _, .one _, rfl, rfl⟩

theorem zU (t_0 : bD) (x_1 : aK) {r : Bool} (h : mA t_0 x_1 = some r) : Fn Try.prog 98 [.agg (bG t_0), .agg (aS x_1)] (.d (.lit (.bool r))) := by
 unfold mA at h
 refine Fn.of_tr Try.func98 rfl (rs := [.tmp 4]) Try.results98 Try.ntmps98 (Nat.le_of_ble_eq_true rfl) ?_
 refine aF ?_
 refine aC ?_
 refine cE rfl (eC (v := .agg (bG t_0)) (aA rfl) rfl rfl rfl) ?_
 rintro _ ⟨b1, rfl⟩
 refine cE rfl (eC (v := .agg (aS x_1)) (aA rfl) rfl rfl rfl) ?_
 rintro _ ⟨b2, rfl⟩
 refine tr1 rfl (aH (v := .d (.lit (.bool false))) (aA rfl) rfl rfl) ?_
 refine aG ?_
 refine aF ?_
 refine aF ?_
 refine aC ?_
 refine tr1 rfl (aN (aA rfl) rfl mG) ?_
 refine tr1 rfl (aR (aA rfl) rfl (i := 1) rfl rfl bL) ?_
 obtain ⟨r3, h4, h⟩ := bind_some h
 refine tr1 rfl (cL (aA rfl) (.func _ _ Try.call114) rfl rfl (BVs.refl _ _) (gL _ _ _ h4) rfl) ?_
 refine tr1 rfl (dZ (aA rfl) rfl) ?_
 refine aG ?_
 refine cA rfl (fun c5 => ?_) (fun c5 => ?_)
 ·have h := aX c5 h
  refine aF ?_
  refine aC ?_
  refine tr1 rfl (aH (v := .d (.lit (.bool false))) (aA rfl) rfl rfl) ?_
  refine aG ?_
  have h := Option.some.inj h
  subst h
  refine cQ (cF (cN (l := [4]) ⟨rfl, trivial⟩)) ?_
  exact bU ⟨rfl, _, .one _, rfl, rfl⟩
 ·have h := aY c5 h
  refine bX ?_
  refine aF ?_
  refine aF ?_
  refine aC ?_
  refine tr1 rfl (aN (aA rfl) rfl nL) ?_
  refine tr1 rfl (aR (aA rfl) rfl (i := 1) rfl rfl bL) ?_
  refine tr1 rfl (bR (aA rfl) rfl rfl rfl) ?_
  refine aG ?_
  refine cA rfl (fun c6 => ?_) (fun c6 => ?_)
  ·have h := aX c6 h
   refine aF ?_
   refine aC ?_
   refine tr1 rfl (aN (aA rfl) rfl lO) ?_
   refine tr1 rfl (aR (aA rfl) rfl (i := 1) rfl rfl bL) ?_
   refine tr1 rfl (bR (aA rfl) rfl rfl rfl) ?_
   refine tr1 rfl (aD (v := .d (.lit (.bool ((decide (x_1.Round = 0)))))) (aA rfl) rfl rfl) ?_
   obtain ⟨b7, h8, h⟩ := bind_some h
   refine cS 8 [3] 23 b7 ?_ ?_
   ·refine bY (decide (x_1.Round = 0)) (fun c14 => ?_) (fun c14 => ?_)
    ·have h8 := aX c14 h8
     refine aM rfl rfl (aA rfl) rfl c14 (aN (aA rfl) rfl jA) ?_
     refine aM rfl rfl (aA rfl) rfl c14 (aR (aA rfl) rfl (i := 1) rfl rfl bL) ?_
     refine aM rfl rfl (aA rfl) rfl c14 (aN (aA rfl) rfl eT) ?_
     refine aM rfl rfl (aA rfl) rfl c14 (aR (aA rfl) rfl (i := 0) rfl rfl dF) ?_
     refine aM rfl rfl (aA rfl) rfl c14 (dC (aA rfl) rfl cT.of) ?_
     refine aM rfl rfl (aA rfl) rfl c14 (bT (aA rfl) rfl rfl rfl) ?_
     obtain ⟨r15, h16, h8⟩ := bind_some h8
     refine aM rfl rfl (aA rfl) rfl c14 (cL (aA rfl) (.func _ _ Try.call114) rfl rfl (BVs.refl _ _) (gL _ _ _ h16) rfl) ?_
     refine tr1 rfl (cC (v := .d (.lit (.bool r15))) (aA rfl) rfl c14 rfl rfl) ?_
     have h8 := Option.some.inj h8
     subst h8
     refine aG (bM rfl ⟨rfl, trivial⟩ rfl)
    ·have h8 := aY c14 h8
     refine aO rfl rfl (aA rfl) rfl (aA rfl) rfl c14 ?_
     refine aO rfl rfl (aA rfl) rfl (aA rfl) rfl c14 ?_
     refine aO rfl rfl (aA rfl) rfl (aA rfl) rfl c14 ?_
     refine aO rfl rfl (aA rfl) rfl (aA rfl) rfl c14 ?_
     refine aO rfl rfl (aA rfl) rfl (aA rfl) rfl c14 ?_
     refine aO rfl rfl (aA rfl) rfl (aA rfl) rfl c14 ?_
     refine aO rfl rfl (aA rfl) rfl (aA rfl) rfl c14 ?_
     refine tr1 rfl (cB (v := .d (.lit (.bool false))) (aA rfl) rfl c14 rfl rfl) ?_
     have h8 := Option.some.inj h8
     subst h8
     refine aG (bM rfl ⟨rfl, trivial⟩ rfl)
   ·refine tr1 rfl (aD (v := .d (.lit (.bool b7))) (aA rfl) rfl rfl) ?_
    obtain ⟨b9, h10, h⟩ := bind_some h
    refine cS 4 [] 28 b9 ?_ ?_
    ·refine bY (b7) (fun c11 => ?_) (fun c11 => ?_)
     ·have h10 := aX c11 h10
      refine aM rfl rfl (aA rfl) rfl c11 (aN (aA rfl) rfl rO) ?_
      refine aM rfl rfl (aA rfl) rfl c11 (aR (aA rfl) rfl (i := 1) rfl rfl bL) ?_
      obtain ⟨r12, h13, h10⟩ := bind_some h10
      refine aM rfl rfl (aA rfl) rfl c11 (cL (aA rfl) (.func _ _ Try.call114) rfl rfl (BVs.refl _ _) (gL _ _ _ h13) rfl) ?_
      refine tr1 rfl (cC (v := .d (.lit (.bool r12))) (aA rfl) rfl c11 rfl rfl) ?_
      have h10 := Option.some.inj h10
      subst h10
      refine aG (bM rfl trivial rfl)
     ·have h10 := aY c11 h10
      refine aO rfl rfl (aA rfl) rfl (aA rfl) rfl c11 ?_
      refine aO rfl rfl (aA rfl) rfl (aA rfl) rfl c11 ?_
      refine aO rfl rfl (aA rfl) rfl (aA rfl) rfl c11 ?_
      refine tr1 rfl (cB (v := .d (.lit (.bool false))) (aA rfl) rfl c11 rfl rfl) ?_
      have h10 := Option.some.inj h10
      subst h10
      refine aG (bM rfl trivial rfl)
    ·refine tr1 rfl (aH (v := .d (.lit (.bool b9))) (aA rfl) rfl rfl) ?_
     refine aG ?_
     have h := Option.some.inj h
     subst h
     refine cQ (cF (cN (l := [4]) ⟨rfl, trivial⟩)) ?_
     exact bU ⟨rfl, _, .one _, rfl, rfl⟩
  ·have h := aY c6 h
   refine bX ?_
   refine aF ?_
   refine aF ?_
   refine aC ?_
   refine tr1 rfl (aN (aA rfl) rfl nL) ?_
   refine tr1 rfl (aR (aA rfl) rfl (i := 1) rfl rfl bL) ?_
   obtain ⟨r17, h18, h⟩ := bind_some h
   refine tr1 rfl (cL (aA rfl) (.func _ _ Try.call114) rfl rfl (BVs.refl _ _) (gL _ _ _ h18) rfl) ?_
   refine tr1 rfl (dZ (aA rfl) rfl) ?_
   refine tr1 rfl (aD (v := .d (.lit (.bool (!r17)))) (aA rfl) rfl rfl) ?_
   obtain ⟨b19, h20, h⟩ := bind_some h
   refine cS 8 [2, 3] 41 b19 ?_ ?_
   ·refine bY (!r17) (fun c35 => ?_) (fun c35 => ?_)
    ·have h20 := aX c35 h20
     refine aO rfl rfl (aA rfl) rfl (aA rfl) rfl c35 ?_
     refine aO rfl rfl (aA rfl) rfl (aA rfl) rfl c35 ?_
     refine aO rfl rfl (aA rfl) rfl (aA rfl) rfl c35 ?_
     refine aO rfl rfl (aA rfl) rfl (aA rfl) rfl c35 ?_
     refine aO rfl rfl (aA rfl) rfl (aA rfl) rfl c35 ?_
     refine aO rfl rfl (aA rfl) rfl (aA rfl) rfl c35 ?_
     refine aO rfl rfl (aA rfl) rfl (aA rfl) rfl c35 ?_
     refine tr1 rfl (cC (v := .d (.lit (.bool true))) (aA rfl) rfl c35 rfl rfl) ?_
     have h20 := Option.some.inj h20
     subst h20
     refine aG (bM rfl ⟨rfl, rfl, trivial⟩ rfl)
    ·have h20 := aY c35 h20
     refine aM rfl rfl (aA rfl) rfl c35 (bN (aA rfl) rfl (i := 0) rfl fO (es := (bG t_0)) rfl rfl) ?_
     refine aM rfl rfl (aA rfl) rfl c35 (aN (aA rfl) rfl lO) ?_
     refine aM rfl rfl (aA rfl) rfl c35 (aR (aA rfl) rfl (i := 1) rfl rfl bL) ?_
     refine aM rfl rfl (aA rfl) rfl c35 (aN (aA rfl) rfl jA) ?_
     refine aM rfl rfl (aA rfl) rfl c35 (aR (aA rfl) rfl (i := 1) rfl rfl bL) ?_
     obtain ⟨r36, h37, h20⟩ := bind_some h20
     refine aM rfl rfl (aA rfl) rfl c35 (cL (aA rfl) (.func _ _ Try.call115) rfl rfl (BVs.refl _ _) (rY _ _ _ h37) rfl) ?_
     refine aM rfl rfl (aA rfl) rfl c35 (dZ (aA rfl) rfl) ?_
     refine tr1 rfl (cB (v := .d (.lit (.bool (!r36)))) (aA rfl) rfl c35 rfl rfl) ?_
     have h20 := Option.some.inj h20
     subst h20
     refine aG (bM rfl ⟨rfl, rfl, trivial⟩ rfl)
   ·refine tr1 rfl (aD (v := .d (.lit (.bool b19))) (aA rfl) rfl rfl) ?_
    obtain ⟨b21, h22, h⟩ := bind_some h
    refine cS 4 [2, 3] 46 b21 ?_ ?_
    ·refine bY (b19) (fun c34 => ?_) (fun c34 => ?_)
     ·have h22 := aX c34 h22
      refine aO rfl rfl (aA rfl) rfl (aA rfl) rfl c34 ?_
      refine aO rfl rfl (aA rfl) rfl (aA rfl) rfl c34 ?_
      refine aO rfl rfl (aA rfl) rfl (aA rfl) rfl c34 ?_
      refine tr1 rfl (cC (v := .d (.lit (.bool true))) (aA rfl) rfl c34 rfl rfl) ?_
      have h22 := Option.some.inj h22
      subst h22
      refine aG (bM rfl ⟨rfl, rfl, trivial⟩ rfl)
     ·have h22 := aY c34 h22
      refine aM rfl rfl (aA rfl) rfl c34 (aN (aA rfl) rfl rO) ?_
      refine aM rfl rfl (aA rfl) rfl c34 (aR (aA rfl) rfl (i := 1) rfl rfl bL) ?_
      refine aM rfl rfl (aA rfl) rfl c34 (bR (aA rfl) rfl rfl rfl) ?_
      refine tr1 rfl (cB (v := .d (.lit (.bool ((!decide (x_1.Old = 0)))))) (aA rfl) rfl c34 rfl rfl) ?_
      have h22 := Option.some.inj h22
      subst h22
      refine aG (bM rfl ⟨rfl, rfl, trivial⟩ rfl)
    ·refine aG ?_
     refine cA rfl (fun c23 => ?_) (fun c23 => ?_)
     ·have h := aX c23 h
      refine aF ?_
      refine aC ?_
      refine tr1 rfl (aH (v := .d (.lit (.bool false))) (aA rfl) rfl rfl) ?_
      refine aG ?_
      have h := Option.some.inj h
      subst h
      refine cQ (cF (cN (l := [4]) ⟨rfl, trivial⟩)) ?_
      exact bU ⟨rfl, _, .one _, rfl, rfl⟩
     ·have h := aY c23 h
      refine bX ?_
      refine aF ?_
      refine aC ?_
      refine tr1 rfl (aN (aA rfl) rfl lO) ?_
      refine tr1 rfl (aR (aA rfl) rfl (i := 1) rfl rfl bL) ?_
      refine tr1 rfl (bR (aA rfl) rfl rfl rfl) ?_
      refine tr1 rfl (aD (v := .d (.lit (.bool ((decide (0 < x_1.Round)))))) (aA rfl) rfl rfl) ?_
      obtain ⟨b24, h25, h⟩ := bind_some h
      refine cS 20 [] 70 b24 ?_ ?_
      ·refine bY (decide (0 < x_1.Round)) (fun c26 => ?_) (fun c26 => ?_)
       ·have h25 := aX c26 h25
        refine aO rfl rfl (aA rfl) rfl (aA rfl) rfl c26 ?_
        refine aO rfl rfl (aA rfl) rfl (aA rfl) rfl c26 ?_
        refine aO rfl rfl (aA rfl) rfl (aA rfl) rfl c26 ?_
        refine aO rfl rfl (aA rfl) rfl (aA rfl) rfl c26 ?_
        refine aO rfl rfl (aA rfl) rfl (aA rfl) rfl c26 ?_
        refine aO rfl rfl (aA rfl) rfl (aA rfl) rfl c26 ?_
        refine aO rfl rfl (aA rfl) rfl (aA rfl) rfl c26 ?_
        refine aO rfl rfl (aA rfl) rfl (aA rfl) rfl c26 ?_
        refine aO rfl rfl (aA rfl) rfl (aA rfl) rfl c26 ?_
        refine eE rfl rfl (aA rfl) rfl (aA rfl) rfl ?_
        refine eE rfl rfl (aA rfl) rfl (aA rfl) rfl ?_
        refine eE rfl rfl (aA rfl) rfl (aA rfl) rfl ?_
        refine eE rfl rfl (aA rfl) rfl (aA rfl) rfl ?_
        refine eE rfl rfl (aA rfl) rfl (aA rfl) rfl ?_
        refine eE rfl rfl (aA rfl) rfl (aA rfl) rfl ?_
        refine eE rfl rfl (aA rfl) rfl (aA rfl) rfl ?_
        refine eE rfl rfl (aA rfl) rfl (aA rfl) rfl ?_
        refine eE rfl rfl (aA rfl) rfl (aA rfl) rfl ?_
        refine aO rfl rfl (aA rfl) rfl (aA rfl) rfl c26 ?_
        refine tr1 rfl (cC (v := .d (.lit (.bool true))) (aA rfl) rfl c26 rfl rfl) ?_
        have h25 := Option.some.inj h25
        subst h25
        refine aG (bM rfl trivial rfl)
       ·have h25 := aY c26 h25
        refine aM rfl rfl (aA rfl) rfl c26 (aN (aA rfl) rfl eT) ?_
        refine aM rfl rfl (aA rfl) rfl c26 (aR (aA rfl) rfl (i := 0) rfl rfl dF) ?_
        refine aM rfl rfl (aA rfl) rfl c26 (aN (aA rfl) rfl jA) ?_
        refine aM rfl rfl (aA rfl) rfl c26 (aR (aA rfl) rfl (i := 1) rfl rfl bL) ?_
        refine aM rfl rfl (aA rfl) rfl c26 (bT (aA rfl) rfl rfl rfl) ?_
        obtain ⟨x27, h28, h25⟩ := bind_some h25
        refine aM rfl rfl (aA rfl) rfl c26 (bJ (aA rfl) rfl rfl cT.of (bP aP h28)) ?_
        refine aM rfl rfl (aA rfl) rfl c26 (bZ (aA rfl) rfl bL) ?_
        refine aM rfl rfl (aA rfl) rfl c26 (bR (aA rfl) rfl rfl rfl) ?_
        refine aM rfl rfl (aA rfl) rfl c26 (aD (v := .d (.lit (.bool ((!decide (x27 = (-1))))))) (aA rfl) rfl rfl) ?_
        obtain ⟨b29, h30, h25⟩ := bind_some h25
        refine cS 10 [50] 69 b29 ?_ ?_
        ·refine bY (!decide (x27 = (-1))) (fun c31 => ?_) (fun c31 => ?_)
         ·have h30 := aX c31 h30
          refine aM rfl rfl (aA rfl) rfl c31 (aN (aA rfl) rfl eT) ?_
          refine aM rfl rfl (aA rfl) rfl c31 (aR (aA rfl) rfl (i := 0) rfl rfl dF) ?_
          refine aM rfl rfl (aA rfl) rfl c31 (aN (aA rfl) rfl jA) ?_
          refine aM rfl rfl (aA rfl) rfl c31 (aR (aA rfl) rfl (i := 1) rfl rfl bL) ?_
          refine aM rfl rfl (aA rfl) rfl c31 (bT (aA rfl) rfl rfl rfl) ?_
          refine aM rfl rfl (aA rfl) rfl c31 (bT (aA rfl) rfl rfl rfl) ?_
          obtain ⟨x32, h33, h30⟩ := bind_some h30
          refine aM rfl rfl (aA rfl) rfl c31 (bJ (aA rfl) rfl rfl cT.of (bP aP h33)) ?_
          refine aM rfl rfl (aA rfl) rfl c31 (bZ (aA rfl) rfl bL) ?_
          refine aM rfl rfl (aA rfl) rfl c31 (bR (aA rfl) rfl rfl rfl) ?_
          refine aM rfl rfl (aA rfl) rfl c26 (cC (v := .d (.lit (.bool ((!decide (x32 = (-1))))))) (aA rfl) rfl c31 rfl rfl) ?_
          have h30 := Option.some.inj h30
          subst h30
          refine aG (bM rfl ⟨rfl, trivial⟩ rfl)
         ·have h30 := aY c31 h30
          refine aO rfl rfl (aA rfl) rfl (aA rfl) rfl c31 ?_
          refine aO rfl rfl (aA rfl) rfl (aA rfl) rfl c31 ?_
          refine aO rfl rfl (aA rfl) rfl (aA rfl) rfl c31 ?_
          refine aO rfl rfl (aA rfl) rfl (aA rfl) rfl c31 ?_
          refine aO rfl rfl (aA rfl) rfl (aA rfl) rfl c31 ?_
          refine aO rfl rfl (aA rfl) rfl (aA rfl) rfl c31 ?_
          refine aO rfl rfl (aA rfl) rfl (aA rfl) rfl c31 ?_
          refine aO rfl rfl (aA rfl) rfl (aA rfl) rfl c31 ?_
          refine aO rfl rfl (aA rfl) rfl (aA rfl) rfl c31 ?_
          refine aM rfl rfl (aA rfl) rfl c26 (cB (v := .d (.lit (.bool false))) (aA rfl) rfl c31 rfl rfl) ?_
          have h30 := Option.some.inj h30
          subst h30
          refine aG (bM rfl ⟨rfl, trivial⟩ rfl)
        ·refine tr1 rfl (cB (v := .d (.lit (.bool b29))) (aA rfl) rfl c26 rfl rfl) ?_
         have h25 := Option.some.inj h25
         subst h25
         refine aG (bM rfl trivial rfl)
      ·refine tr1 rfl (aH (v := .d (.lit (.bool b24))) (aA rfl) rfl rfl) ?_
       refine aG ?_
       have h := Option.some.inj h
       subst h
       refine cQ (cF (cN (l := [4]) ⟨rfl, trivial⟩)) ?_
       exact bU ⟨rfl, _, .one _, rfl, rfl⟩

theorem uL (l_0 : List aK) {r : (List aK)} (h : lT l_0 = some r) : Fn Try.prog 118 [.d (.sl 5 (l_0.map aS))] (.d (.sl 5 (r.map aS))) := by
 unfold lT at h
 refine Fn.of_tr Try.func118 rfl (rs := [.tmp 2]) Try.results118 Try.ntmps118 (Nat.le_of_ble_eq_true rfl) ?_
 refine aF ?_
 refine aC ?_
 refine tr1 rfl (fZ 5 (aA rfl)) ?_
 refine aG ?_
 refine aF ?_
 refine aC ?_
 refine tr1 rfl (gA 141 5 (.inl rfl) (aA rfl)) ?_
 refine aG ?_
 refine aF ?_
 refine aF ?_
 refine aC ?_
 refine tr1 rfl (aH (v := .d (.lit (.int .i64 0))) (aA rfl) rfl rfl) ?_
 refine aG ?_
 refine cO ?_
 refine dG [0] (fun (s2 : Int × (List aK) × Value) => [(3, .d (.lit s2.2.2)), (4, .d (.lit (.int .i64 s2.1)))]) (fun (s2 : Int × (List aK) × Value) => [.arr s2.2.2 141 5 (s2.2.1.map aS)]) (fun (k : Nat) (s2 : Int × (List aK) × Value) => eR l_0 k s2.1 s2.2.1) (fun _ => rfl) (0, ([] : List aK), (.slice none 0 0)) h (bE [0] rfl rfl (aU rfl (aU rfl (bC ⟨rfl, trivial⟩)))) ?_
 rintro k4 ⟨i_0_2, out_0_2, w3⟩ h
 simp only [eR] at h
 refine aF ?_
 refine aF ?_
 refine aC ?_
 refine tr1 rfl (aD (v := .d (.lit (.int .i64 i_0_2))) (aA rfl) rfl rfl) ?_
 refine tr1 rfl (aD (v := .d (.sl 5 (l_0.map aS))) (aA rfl) rfl rfl) ?_
 refine tr1 rfl (dC (aA rfl) rfl iW.of) ?_
 refine tr1 rfl (bR (aA rfl) rfl rfl rfl) ?_
 refine aG ?_
 refine cA rfl (fun c5 => ?_) (fun c5 => ?_)
 ·have h := aX c5 h
  refine bX ?_
  refine aF ?_
  refine cO ?_
  refine aF ?_
  refine aC ?_
  refine tr1 rfl (aH (v := .d (.lit (.bool false))) (aA rfl) rfl rfl) ?_
  refine aG ?_
  refine aF ?_
  refine aF ?_
  refine aC ?_
  refine tr1 rfl (aH (v := .d (.lit (.int .i64 0))) (aA rfl) rfl rfl) ?_
  refine aG ?_
  refine cO ?_
  refine dG [0, 3, 4] (fun (s6 : Bool × Int) => [(5, .d (.lit (.bool s6.1))), (6, .d (.lit (.int .i64 s6.2)))]) (fun (s6 : Bool × Int) => [.arr w3 141 5 (out_0_2.map aS)]) (fun (k : Nat) (s6 : Bool × Int) => gZ (eR l_0 k4) l_0 i_0_2 out_0_2 k s6.1 s6.2) (fun _ => rfl) (false, 0) h (bE [0] rfl rfl (aU rfl (aU rfl (bC ⟨rfl, rfl, rfl, trivial⟩)))) ?_
  rintro k7 ⟨twin_2_6, k_2_6⟩ h
  simp only [gZ] at h
  refine aF ?_
  refine aF ?_
  refine aC ?_
  refine tr1 rfl (aD (v := .d (.lit (.int .i64 k_2_6))) (aA rfl) rfl rfl) ?_
  refine tr1 rfl (aD (v := .d (.lit w3)) (aA rfl) rfl rfl) ?_
  refine tr1 rfl (kN (m := 0) (aA rfl) rfl rfl iW.of) ?_
  refine tr1 rfl (bR (aA rfl) rfl rfl rfl) ?_
  refine aG ?_
  refine cA rfl (fun c8 => ?_) (fun c8 => ?_)
  ·have h := aX c8 h
   refine bX ?_
   refine aF ?_
   refine cO ?_
   obtain ⟨b9, h10, h⟩ := bind_some h
   refine eD mix 12 [0, 3, 4, 6] [(30, .d (.lit (.bool b9)))] ?_ ?_
   ·refine bY (twin_2_6) (fun c11 => ?_) (fun c11 => ?_)
    ·have h10 := aX c11 h10
     have h10 := Option.some.inj h10
     subst h10
     refine ⟨[(19, 0, .d (.lit (.bool twin_2_6))), (20, 1, .d (.lit (.bool twin_2_6))), (21, 2, .tup []), (22, 3, .tup []), (23, 4, .tup []), (24, 5, .tup []), (25, 6, .tup []), (26, 7, .tup []), (27, 8, .tup []), (28, 9, .tup []), (29, 10, .tup []), (30, 11, .d (.lit (.bool true)))], ?_, ?_⟩
     · exact ⟨by kernel_rfl, by kernel_rfl, by kernel_rfl, by kernel_rfl, by kernel_rfl, [([], []), ([0], []), ([1], []), ([1], []), ([1, 2, 3], []), ([1, 4], []), ([1], []), ([1], []), ([1, 6, 7], []), ([1, 8], []), ([1, 5, 9], []), ([1, 10], [])], by kernel_rfl, ⟨fun S hS => aE rfl (aJ rfl (aD (v := .d (.lit (.bool twin_2_6))) (aA rfl) (aB hS rfl) rfl)),
      fun S hS => aE rfl (aJ rfl (aD (v := .d (.lit (.bool twin_2_6))) (aA rfl) (aB hS rfl) rfl)),
      fun S hS => aE rfl (aZ rfl rfl (aA rfl) rfl (aA rfl) (aL hS rfl) c11),
      fun S hS => aE rfl (aZ rfl rfl (aA rfl) rfl (aA rfl) (aL hS rfl) c11),
      fun S hS => aE rfl (aZ rfl rfl (aA rfl) rfl (aA rfl) (aL hS rfl) c11),
      fun S hS => aE rfl (aZ rfl rfl (aA rfl) rfl (aA rfl) (aL hS rfl) c11),
      fun S hS => aE rfl (aZ rfl rfl (aA rfl) rfl (aA rfl) (aL hS rfl) c11),
      fun S hS => aE rfl (aZ rfl rfl (aA rfl) rfl (aA rfl) (aL hS rfl) c11),
      fun S hS => aE rfl (aZ rfl rfl (aA rfl) rfl (aA rfl) (aL hS rfl) c11),
      fun S hS => aE rfl (aZ rfl rfl (aA rfl) rfl (aA rfl) (aL hS rfl) c11),
      fun S hS => aE rfl (aZ rfl rfl (aA rfl) rfl (aA rfl) (aL hS rfl) c11),
      fun S hS => aE rfl (aJ rfl (cC (v := .d (.lit (.bool true))) (aA rfl) (aB hS rfl) c11 rfl rfl)), trivial⟩⟩
     · exact dE (aU rfl (bC ⟨rfl, rfl, rfl, rfl, trivial⟩))
    ·have h10 := aY c11 h10
     obtain ⟨x12, h13, h10⟩ := bind_some h10
     obtain ⟨x14, h15, h10⟩ := bind_some h10
     have h10 := Option.some.inj h10
     subst h10
     refine ⟨[(19, 0, .d (.lit (.bool twin_2_6))), (20, 1, .d (.lit (.bool twin_2_6))), (21, 2, .d (.lit w3)), (22, 3, .d (.lit (.int .i64 k_2_6))), (23, 4, .ep w3 5 k_2_6.toNat 0), (24, 5, .agg (aS x12)), (25, 6, .d (.sl 5 (l_0.map aS))), (26, 7, .d (.lit (.int .i64 i_0_2))), (27, 8, .cp [.lit (.int .i64 x14.Kind), .lit (.int .i64 x14.Round), .lit (.int .i64 x14.Place), .lit (.int .i64 x14.Player), .lit (.int .i64 x14.Old)]), (28, 9, .agg (aS x14)), (29, 10, .d (.lit (.bool ((decide (x12 = x14)))))), (30, 11, .d (.lit (.bool ((decide (x12 = x14))))))], ?_, ?_⟩
     · exact ⟨by kernel_rfl, by kernel_rfl, by kernel_rfl, by kernel_rfl, by kernel_rfl, [([], []), ([0], []), ([1], []), ([1], []), ([1, 2, 3], []), ([1, 4], []), ([1], []), ([1], []), ([1, 6, 7], []), ([1, 8], []), ([1, 5, 9], []), ([1, 10], [])], by kernel_rfl, ⟨fun S hS => aE rfl (aJ rfl (aD (v := .d (.lit (.bool twin_2_6))) (aA rfl) (aB hS rfl) rfl)),
      fun S hS => aE rfl (aJ rfl (aD (v := .d (.lit (.bool twin_2_6))) (aA rfl) (aB hS rfl) rfl)),
      fun S hS => aE rfl (bA rfl rfl (aA rfl) (aL hS rfl) c11 (aD (v := .d (.lit w3)) (aA rfl) (aB hS rfl) rfl)),
      fun S hS => aE rfl (bA rfl rfl (aA rfl) (aL hS rfl) c11 (aD (v := .d (.lit (.int .i64 k_2_6))) (aA rfl) (aB hS rfl) rfl)),
      fun S hS => aE rfl (bA rfl rfl (aA rfl) (aL hS rfl) c11 (eG (m := 0) (aA rfl) (aB hS rfl) rfl (aB hS rfl) iW.of (bP aS h13))),
      fun S hS => aE rfl (bA rfl rfl (aA rfl) (aL hS rfl) c11 (aEr (aA rfl) (aB hS rfl) (l := 0) rfl (jU aS h13) jM (es := (aS x12)) rfl rfl)),
      fun S hS => aE rfl (bA rfl rfl (aA rfl) (aL hS rfl) c11 (aD (v := .d (.sl 5 (l_0.map aS))) (aA rfl) (aB hS rfl) rfl)),
      fun S hS => aE rfl (bA rfl rfl (aA rfl) (aL hS rfl) c11 (aD (v := .d (.lit (.int .i64 i_0_2))) (aA rfl) (aB hS rfl) rfl)),
      fun S hS => aE rfl (bA rfl rfl (aA rfl) (aL hS rfl) c11 (bJ (aA rfl) (aB hS rfl) (aB hS rfl) iW.of (bP aS h15))),
      fun S hS => aE rfl (bA rfl rfl (aA rfl) (aL hS rfl) c11 (dB (aA rfl) (aB hS rfl) jM (es := (aS x14)) rfl rfl)),
      fun S hS => aE rfl (bA rfl rfl (aA rfl) (aL hS rfl) c11 (aKo (a := x12) (b := x14) (aA rfl) (aB hS rfl) (aB hS rfl) rfl rfl Try.eqGuardType141 aFc)),
      fun S hS => aE rfl (aJ rfl (cB (v := .d (.lit (.bool ((decide (x12 = x14)))))) (aA rfl) (aB hS rfl) c11 (aB hS rfl) rfl)), trivial⟩⟩
     · exact dE (aU rfl (bC ⟨rfl, rfl, rfl, rfl, trivial⟩))
   ·refine tr1 rfl (aH (v := .d (.lit (.bool b9))) (aA rfl) rfl rfl) ?_
    refine fB ?_
    refine aC ?_
    refine tr1 rfl (aD (v := .d (.lit (.int .i64 k_2_6))) (aA rfl) rfl rfl) ?_
    refine tr1 rfl (bT (aA rfl) rfl rfl rfl) ?_
    refine tr1 rfl (aH (v := .d (.lit (.int .i64 ((w64 (k_2_6 + 1)))))) (aA rfl) rfl rfl) ?_
    refine aG ?_
    exact ⟨(b9, w64 (k_2_6 + 1)), h, bE [0] rfl rfl (aU rfl (aU rfl (bC ⟨rfl, rfl, rfl, trivial⟩)))⟩
  ·have h := aY c8 h
   refine dA ?_
   refine .inl ⟨rfl, ?_⟩
   simp only [lM] at h
   refine aF ?_
   refine aC ?_
   refine tr1 rfl (aD (v := .d (.lit (.bool twin_2_6))) (aA rfl) rfl rfl) ?_
   refine tr1 rfl (dZ (aA rfl) rfl) ?_
   refine aG ?_
   refine cA rfl (fun c16 => ?_) (fun c16 => ?_)
   ·have h := aX c16 h
    refine aC ?_
    refine tr1 rfl (aD (v := .d (.lit w3)) (aA rfl) rfl rfl) ?_
    refine tr1 rfl (aD (v := .d (.sl 5 (l_0.map aS))) (aA rfl) rfl rfl) ?_
    refine tr1 rfl (aD (v := .d (.lit (.int .i64 i_0_2))) (aA rfl) rfl rfl) ?_
    obtain ⟨x17, h18, h⟩ := bind_some h
    refine tr1 rfl (bJ (aA rfl) rfl rfl iW.of (bP aS h18)) ?_
    refine tr1 rfl (dB (aA rfl) rfl jM (es := (aS x17)) rfl rfl) ?_
    refine tr1 rfl (eW (aA rfl) iW rfl rfl (rows := ([x17]).map aS) rfl (dD (f := aS) fun _ => rfl) rfl (by decide)) ?_
    obtain ⟨x19, h20, h⟩ := bind_some h
    refine cE rfl (fC (i := 0) (aA rfl) iW rfl rfl rfl (fun _ => rfl) h20 rfl) ?_
    rintro _ ⟨v21, rfl⟩
    refine tr1 rfl (aH (v := .d (.lit v21)) (aA rfl) rfl rfl) ?_
    refine fB ?_
    simp only [kF] at h
    refine aC ?_
    refine tr1 rfl (aD (v := .d (.lit (.int .i64 i_0_2))) (aA rfl) rfl rfl) ?_
    refine tr1 rfl (bT (aA rfl) rfl rfl rfl) ?_
    refine tr1 rfl (aH (v := .d (.lit (.int .i64 ((w64 (i_0_2 + 1)))))) (aA rfl) rfl rfl) ?_
    refine aG ?_
    exact ⟨(w64 (i_0_2 + 1), x19, v21), h, bE [0] rfl rfl (aU rfl (aU rfl (bC ⟨rfl, trivial⟩)))⟩
   ·have h := aY c16 h
    refine dY ?_
    simp only [kF] at h
    refine aC ?_
    refine tr1 rfl (aD (v := .d (.lit (.int .i64 i_0_2))) (aA rfl) rfl rfl) ?_
    refine tr1 rfl (bT (aA rfl) rfl rfl rfl) ?_
    refine tr1 rfl (aH (v := .d (.lit (.int .i64 ((w64 (i_0_2 + 1)))))) (aA rfl) rfl rfl) ?_
    refine aG ?_
    exact ⟨(w64 (i_0_2 + 1), out_0_2, w3), h, bE [0] rfl rfl (aU rfl (aU rfl (bC ⟨rfl, trivial⟩)))⟩
 ·have h := aY c5 h
  refine dA ?_
  refine .inl ⟨rfl, ?_⟩
  simp only [qA] at h
  refine aF ?_
  refine aC ?_
  refine tr1 rfl (aD (v := .d (.lit w3)) (aA rfl) rfl rfl) ?_
  refine tr1 rfl (aH (v := .d (.lit w3)) (aA rfl) rfl rfl) ?_
  refine aG ?_
  have h := Option.some.inj h
  subst h
  refine cQ (cF (fM (k := 2) (v := .d (.sl 5 (out_0_2.map aS))) (.d (gQ 0 rfl (dD (f := aS) fun _ => rfl))) (qL))) ?_
  exact bU ⟨rfl, _, .one _, rfl, rfl⟩

theorem aDu (l_0 : List Int) (n_1 : Int) {r : Bool} (h : pE l_0 n_1 = some r) : Fn Try.prog 130 [.d (.sl 1 (l_0.map aP)), .d (.lit (.int .i64 n_1))] (.d (.lit (.bool r))) := by
 unfold pE at h
 refine Fn.of_tr Try.func130 rfl (rs := [.tmp 4]) Try.results130 Try.ntmps130 (Nat.le_of_ble_eq_true rfl) ?_
 refine aF ?_
 refine aC ?_
 refine tr1 rfl (aH (v := .d (.lit (.bool false))) (aA rfl) rfl rfl) ?_
 refine aG ?_
 refine aF ?_
 refine aF ?_
 refine aC ?_
 refine tr1 rfl (aH (v := .d (.lit (.int .i64 0))) (aA rfl) rfl rfl) ?_
 refine aG ?_
 refine cO ?_
 refine dG [0, 1] (fun (s1 : Int) => [(5, .d (.lit (.int .i64 s1)))]) (fun (s1 : Int) => []) (fun (k : Nat) (s1 : Int) => jW l_0 n_1 k s1) (fun _ => rfl) (0) h (bE [] rfl rfl (aU rfl (bC ⟨rfl, rfl, trivial⟩))) ?_
 rintro k2 i_0_1 h
 simp only [jW] at h
 refine aF ?_
 refine aF ?_
 refine aC ?_
 refine tr1 rfl (aD (v := .d (.lit (.int .i64 i_0_1))) (aA rfl) rfl rfl) ?_
 refine tr1 rfl (aD (v := .d (.sl 1 (l_0.map aP))) (aA rfl) rfl rfl) ?_
 refine tr1 rfl (dC (aA rfl) rfl cT.of) ?_
 refine tr1 rfl (bR (aA rfl) rfl rfl rfl) ?_
 refine aG ?_
 refine cA rfl (fun c3 => ?_) (fun c3 => ?_)
 ·have h := aX c3 h
  refine bX ?_
  refine aF ?_
  refine cO ?_
  refine aF ?_
  refine aC ?_
  refine tr1 rfl (aD (v := .d (.sl 1 (l_0.map aP))) (aA rfl) rfl rfl) ?_
  refine tr1 rfl (aD (v := .d (.lit (.int .i64 i_0_1))) (aA rfl) rfl rfl) ?_
  obtain ⟨x4, h5, h⟩ := bind_some h
  refine tr1 rfl (bJ (aA rfl) rfl rfl cT.of (bP aP h5)) ?_
  refine tr1 rfl (bZ (aA rfl) rfl bL) ?_
  refine tr1 rfl (aD (v := .d (.lit (.int .i64 n_1))) (aA rfl) rfl rfl) ?_
  refine tr1 rfl (bR (aA rfl) rfl rfl rfl) ?_
  refine aG ?_
  refine cA rfl (fun c6 => ?_) (fun c6 => ?_)
  ·have h := aX c6 h
   refine aF ?_
   refine aC ?_
   refine tr1 rfl (aH (v := .d (.lit (.bool true))) (aA rfl) rfl rfl) ?_
   refine aG ?_
   have h := Option.some.inj h
   subst h
   exact bU ⟨rfl, _, .one _, rfl, rfl⟩
  ·have h := aY c6 h
   refine dY ?_
   refine aC ?_
   refine tr1 rfl (aD (v := .d (.lit (.int .i64 i_0_1))) (aA rfl) rfl rfl) ?_
   refine tr1 rfl (bT (aA rfl) rfl rfl rfl) ?_
   refine tr1 rfl (aH (v := .d (.lit (.int .i64 ((w64 (i_0_1 + 1)))))) (aA rfl) rfl rfl) ?_
   refine aG ?_
   exact ⟨(w64 (i_0_1 + 1)), h, bE [] rfl rfl (aU rfl (bC ⟨rfl, rfl, trivial⟩))⟩
 ·have h := aY c3 h
  refine dA ?_
  refine .inl ⟨rfl, ?_⟩
  simp only [rH] at h
  refine aF ?_
  refine aC ?_
  refine tr1 rfl (aH (v := .d (.lit (.bool false))) (aA rfl) rfl rfl) ?_
  refine aG ?_
  have h := Option.some.inj h
  subst h
  exact bU ⟨rfl, _, .one _, rfl, rfl⟩

theorem yL (t_0 : bD) (l_1 : List aK) {r : (List Int) × Bool} (h : lL t_0 l_1 = some r) : Fn Try.prog 116 [.agg (bG t_0), .d (.sl 5 (l_1.map aS))] (.tup [.d (.sl 1 (r.1.map aP)), .d (.lit (.bool r.2))]) := by
 unfold lL at h
 refine Fn.of_tr Try.func116 rfl (rs := [.tmp 4, .tmp 5]) Try.results116 Try.ntmps116 (Nat.le_of_ble_eq_true rfl) ?_
 refine aF ?_
 refine aC ?_
 refine cE rfl (eC (v := .agg (bG t_0)) (aA rfl) rfl rfl rfl) ?_
 rintro _ ⟨b1, rfl⟩
 refine tr1 rfl (fZ 1 (aA rfl)) ?_
 refine tr1 rfl (aH (v := .d (.lit (.bool false))) (aA rfl) rfl rfl) ?_
 refine aG ?_
 refine aF ?_
 refine aC ?_
 refine tr1 rfl (aD (v := .d (.sl 5 (l_1.map aS))) (aA rfl) rfl rfl) ?_
 obtain ⟨r2, h3, h⟩ := bind_some h
 refine tr1 rfl (fT (aA rfl) (.func _ _ Try.call118) rfl rfl (uL _ h3)) ?_
 refine tr1 rfl (aH (v := .d (.sl 5 (r2.map aS))) (aA rfl) rfl rfl) ?_
 refine aG ?_
 refine aF ?_
 refine aC ?_
 refine cE rfl (aGg (aA rfl) cT rfl rfl (rows := (([] : List Int)).map aP) rfl (dD (f := aP) fun _ => rfl) rfl (by decide)) ?_
 rintro _ ⟨v4, rfl⟩
 refine tr1 rfl (aN (aA rfl) rfl eT) ?_
 refine tr1 rfl (aR (aA rfl) rfl (i := 0) rfl rfl dF) ?_
 obtain ⟨x5, h6, h⟩ := bind_some h
 refine cE rfl (fC (i := 1) (aA rfl) cT rfl rfl rfl (fun _ => rfl) h6 rfl) ?_
 rintro _ ⟨v7, rfl⟩
 refine tr1 rfl (aH (v := .d (.lit v7)) (aA rfl) rfl rfl) ?_
 refine aG ?_
 refine aF ?_
 refine aC ?_
 refine tr1 rfl (gA 3 1 (.inl rfl) (aA rfl)) ?_
 refine aG ?_
 refine aF ?_
 refine aC ?_
 refine tr1 rfl (aH (v := .d (.lit (.int .i64 0))) (aA rfl) rfl rfl) ?_
 refine aG ?_
 refine aF ?_
 refine aF ?_
 refine aC ?_
 refine tr1 rfl (aH (v := .d (.lit (.int .i64 0))) (aA rfl) rfl rfl) ?_
 refine aG ?_
 refine cO ?_
 refine dG [2, 6] (fun (s9 : Int × Int × (List Int) × (List Int) × Value × Value) => [(7, .d (.lit s9.2.2.2.2.2)), (8, .d (.lit s9.2.2.2.2.1)), (9, .d (.lit (.int .i64 s9.1))), (10, .d (.lit (.int .i64 s9.2.1)))]) (fun (s9 : Int × Int × (List Int) × (List Int) × Value × Value) => [.box b1 0 (bG t_0), .arr s9.2.2.2.2.1 3 1 (s9.2.2.1.map aP), .arr s9.2.2.2.2.2 3 1 (s9.2.2.2.1.map aP)]) (fun (k : Nat) (s9 : Int × Int × (List Int) × (List Int) × Value × Value) => eK r2 t_0 k s9.1 s9.2.1 s9.2.2.1 s9.2.2.2.1) (fun _ => rfl) (0, 0, ([] : List Int), x5, (.slice none 0 0), v7) h (bE [0, 2, 1] rfl rfl (aU rfl (aU rfl (aU rfl (aU rfl (bC ⟨rfl, rfl, trivial⟩)))))) ?_
 rintro k12 ⟨used_0_9, i_0_9, out_0_9, o18_0_9, w10, w11⟩ h
 simp only [eK] at h
 refine aF ?_
 refine aF ?_
 refine aC ?_
 refine tr1 rfl (aD (v := .d (.lit (.int .i64 i_0_9))) (aA rfl) rfl rfl) ?_
 refine tr1 rfl (aN (aA rfl) rfl eT) ?_
 refine tr1 rfl (aR (aA rfl) rfl (i := 0) rfl rfl dF) ?_
 refine tr1 rfl (dC (aA rfl) rfl cT.of) ?_
 refine tr1 rfl (bR (aA rfl) rfl rfl rfl) ?_
 refine aG ?_
 refine cA rfl (fun c13 => ?_) (fun c13 => ?_)
 ·have h := aX c13 h
  refine bX ?_
  refine aF ?_
  refine cO ?_
  refine aF ?_
  refine aC ?_
  refine tr1 rfl (aN (aA rfl) rfl eT) ?_
  refine tr1 rfl (aR (aA rfl) rfl (i := 0) rfl rfl dF) ?_
  refine tr1 rfl (aD (v := .d (.lit (.int .i64 i_0_9))) (aA rfl) rfl rfl) ?_
  obtain ⟨x14, h15, h⟩ := bind_some h
  refine tr1 rfl (bJ (aA rfl) rfl rfl cT.of (bP aP h15)) ?_
  refine tr1 rfl (bZ (aA rfl) rfl bL) ?_
  refine tr1 rfl (aH (v := .d (.lit (.int .i64 x14))) (aA rfl) rfl rfl) ?_
  refine aG ?_
  refine aF ?_
  refine aF ?_
  refine aC ?_
  refine tr1 rfl (aH (v := .d (.lit (.bool true))) (aA rfl) rfl rfl) ?_
  refine aG ?_
  refine cO ?_
  refine dG [2, 6, 8, 10] (fun (s16 : Int × Int × Bool × (List Int) × Value) => [(7, .d (.lit s16.2.2.2.2)), (9, .d (.lit (.int .i64 s16.1))), (11, .d (.lit (.int .i64 s16.2.1))), (12, .d (.lit (.bool s16.2.2.1)))]) (fun (s16 : Int × Int × Bool × (List Int) × Value) => [.box b1 0 (bG t_0), .arr w10 3 1 (out_0_9.map aP), .arr s16.2.2.2.2 3 1 (s16.2.2.2.1.map aP)]) (fun (k : Nat) (s16 : Int × Int × Bool × (List Int) × Value) => fR (eK r2 t_0 k12) r2 i_0_9 t_0 out_0_9 k s16.1 s16.2.1 s16.2.2.1 s16.2.2.2.1) (fun _ => rfl) (used_0_9, x14, true, o18_0_9, w11) h (bE [0, 1, 2] rfl rfl (aU rfl (aU rfl (aU rfl (aU rfl (bC ⟨rfl, rfl, rfl, rfl, trivial⟩)))))) ?_
  rintro k18 ⟨used_2_16, now_2_16, again_2_16, o18_2_16, w17⟩ h
  simp only [fR] at h
  refine aF ?_
  refine aF ?_
  refine aC ?_
  refine tr1 rfl (aD (v := .d (.lit (.bool again_2_16))) (aA rfl) rfl rfl) ?_
  refine aG ?_
  refine cA rfl (fun c19 => ?_) (fun c19 => ?_)
  ·have h := aX c19 h
   refine bX ?_
   refine cO ?_
   refine aF ?_
   refine aC ?_
   refine tr1 rfl (aH (v := .d (.lit (.bool false))) (aA rfl) rfl rfl) ?_
   refine aG ?_
   refine aF ?_
   refine aC ?_
   refine tr1 rfl (gA 3 1 (.inl rfl) (aA rfl)) ?_
   refine aG ?_
   refine aF ?_
   refine aF ?_
   refine aC ?_
   refine tr1 rfl (aH (v := .d (.lit (.int .i64 0))) (aA rfl) rfl rfl) ?_
   refine aG ?_
   refine cO ?_
   refine dG [2, 6, 7, 8, 9, 10, 11, 12] (fun (s21 : Int × (List Int) × Value) => [(13, .d (.lit s21.2.2)), (14, .d (.lit (.int .i64 s21.1)))]) (fun (s21 : Int × (List Int) × Value) => [.box b1 0 (bG t_0), .arr w10 3 1 (out_0_9.map aP), .arr s21.2.2 3 1 (s21.2.1.map aP), .arr w17 3 1 (o18_2_16.map aP)]) (fun (k : Nat) (s21 : Int × (List Int) × Value) => fE (eK r2 t_0 k12) (fR (eK r2 t_0 k12) r2 i_0_9 t_0 out_0_9 k18) r2 used_2_16 i_0_9 now_2_16 false t_0 out_0_9 o18_2_16 k s21.1 s21.2.1) (fun _ => rfl) (0, ([] : List Int), (.slice none 0 0)) h (bE [0, 1, 3, 2] rfl rfl (aU rfl (aU rfl (bC ⟨rfl, rfl, rfl, rfl, rfl, rfl, rfl, rfl, trivial⟩)))) ?_
   rintro k23 ⟨k_4_21, nextv_4_21, w22⟩ h
   simp only [fE] at h
   refine aF ?_
   refine aF ?_
   refine aC ?_
   refine tr1 rfl (aD (v := .d (.lit (.int .i64 k_4_21))) (aA rfl) rfl rfl) ?_
   refine tr1 rfl (aD (v := .d (.sl 5 (r2.map aS))) (aA rfl) rfl rfl) ?_
   refine tr1 rfl (dC (aA rfl) rfl iW.of) ?_
   refine tr1 rfl (bR (aA rfl) rfl rfl rfl) ?_
   refine aG ?_
   refine cA rfl (fun c24 => ?_) (fun c24 => ?_)
   ·have h := aX c24 h
    refine bX ?_
    refine aF ?_
    refine cO ?_
    refine aF ?_
    refine aC ?_
    refine tr1 rfl (aD (v := .d (.sl 5 (r2.map aS))) (aA rfl) rfl rfl) ?_
    refine tr1 rfl (aD (v := .d (.lit (.int .i64 k_4_21))) (aA rfl) rfl rfl) ?_
    obtain ⟨x25, h26, h⟩ := bind_some h
    refine tr1 rfl (bJ (aA rfl) rfl rfl iW.of (bP aS h26)) ?_
    refine tr1 rfl (cG (aA rfl) rfl nL (es := [.lit (.int .i64 x25.Kind)]) rfl) ?_
    refine tr1 rfl (bZ (aA rfl) rfl bL) ?_
    refine tr1 rfl (bR (aA rfl) rfl rfl rfl) ?_
    refine tr1 rfl (aD (v := .d (.lit (.bool ((decide (x25.Kind = 5)))))) (aA rfl) rfl rfl) ?_
    obtain ⟨b27, h28, h⟩ := bind_some h
    refine cS 8 [2, 6, 7, 8, 9, 10, 11, 12, 13, 14] 55 b27 ?_ ?_
    ·refine bY (decide (x25.Kind = 5)) (fun c40 => ?_) (fun c40 => ?_)
     ·have h28 := aX c40 h28
      refine aM rfl rfl (aA rfl) rfl c40 (aD (v := .d (.sl 5 (r2.map aS))) (aA rfl) rfl rfl) ?_
      refine aM rfl rfl (aA rfl) rfl c40 (aD (v := .d (.lit (.int .i64 k_4_21))) (aA rfl) rfl rfl) ?_
      obtain ⟨x41, h42, h28⟩ := bind_some h28
      refine aM rfl rfl (aA rfl) rfl c40 (bJ (aA rfl) rfl rfl iW.of (bP aS h42)) ?_
      refine aM rfl rfl (aA rfl) rfl c40 (cG (aA rfl) rfl jA (es := [.lit (.int .i64 x41.Place)]) rfl) ?_
      refine aM rfl rfl (aA rfl) rfl c40 (bZ (aA rfl) rfl bL) ?_
      refine aM rfl rfl (aA rfl) rfl c40 (aD (v := .d (.lit (.int .i64 i_0_9))) (aA rfl) rfl rfl) ?_
      refine aM rfl rfl (aA rfl) rfl c40 (bR (aA rfl) rfl rfl rfl) ?_
      refine tr1 rfl (cC (v := .d (.lit (.bool ((decide (x41.Place = i_0_9)))))) (aA rfl) rfl c40 rfl rfl) ?_
      have h28 := Option.some.inj h28
      subst h28
      refine aG (bM rfl ⟨rfl, rfl, rfl, rfl, rfl, rfl, rfl, rfl, rfl, rfl, trivial⟩ rfl)
     ·have h28 := aY c40 h28
      refine aO rfl rfl (aA rfl) rfl (aA rfl) rfl c40 ?_
      refine aO rfl rfl (aA rfl) rfl (aA rfl) rfl c40 ?_
      refine aO rfl rfl (aA rfl) rfl (aA rfl) rfl c40 ?_
      refine aO rfl rfl (aA rfl) rfl (aA rfl) rfl c40 ?_
      refine aO rfl rfl (aA rfl) rfl (aA rfl) rfl c40 ?_
      refine aO rfl rfl (aA rfl) rfl (aA rfl) rfl c40 ?_
      refine aO rfl rfl (aA rfl) rfl (aA rfl) rfl c40 ?_
      refine tr1 rfl (cB (v := .d (.lit (.bool false))) (aA rfl) rfl c40 rfl rfl) ?_
      have h28 := Option.some.inj h28
      subst h28
      refine aG (bM rfl ⟨rfl, rfl, rfl, rfl, rfl, rfl, rfl, rfl, rfl, rfl, trivial⟩ rfl)
    ·refine tr1 rfl (aD (v := .d (.lit (.bool b27))) (aA rfl) rfl rfl) ?_
     obtain ⟨b29, h30, h⟩ := bind_some h
     refine cS 8 [2, 6, 7, 8, 9, 10, 11, 12, 13, 14] 64 b29 ?_ ?_
     ·refine bY (b27) (fun c37 => ?_) (fun c37 => ?_)
      ·have h30 := aX c37 h30
       refine aM rfl rfl (aA rfl) rfl c37 (aD (v := .d (.sl 5 (r2.map aS))) (aA rfl) rfl rfl) ?_
       refine aM rfl rfl (aA rfl) rfl c37 (aD (v := .d (.lit (.int .i64 k_4_21))) (aA rfl) rfl rfl) ?_
       obtain ⟨x38, h39, h30⟩ := bind_some h30
       refine aM rfl rfl (aA rfl) rfl c37 (bJ (aA rfl) rfl rfl iW.of (bP aS h39)) ?_
       refine aM rfl rfl (aA rfl) rfl c37 (cG (aA rfl) rfl rO (es := [.lit (.int .i64 x38.Old)]) rfl) ?_
       refine aM rfl rfl (aA rfl) rfl c37 (bZ (aA rfl) rfl bL) ?_
       refine aM rfl rfl (aA rfl) rfl c37 (aD (v := .d (.lit (.int .i64 now_2_16))) (aA rfl) rfl rfl) ?_
       refine aM rfl rfl (aA rfl) rfl c37 (bR (aA rfl) rfl rfl rfl) ?_
       refine tr1 rfl (cC (v := .d (.lit (.bool ((decide (x38.Old = now_2_16)))))) (aA rfl) rfl c37 rfl rfl) ?_
       have h30 := Option.some.inj h30
       subst h30
       refine aG (bM rfl ⟨rfl, rfl, rfl, rfl, rfl, rfl, rfl, rfl, rfl, rfl, trivial⟩ rfl)
      ·have h30 := aY c37 h30
       refine aO rfl rfl (aA rfl) rfl (aA rfl) rfl c37 ?_
       refine aO rfl rfl (aA rfl) rfl (aA rfl) rfl c37 ?_
       refine aO rfl rfl (aA rfl) rfl (aA rfl) rfl c37 ?_
       refine aO rfl rfl (aA rfl) rfl (aA rfl) rfl c37 ?_
       refine aO rfl rfl (aA rfl) rfl (aA rfl) rfl c37 ?_
       refine aO rfl rfl (aA rfl) rfl (aA rfl) rfl c37 ?_
       refine aO rfl rfl (aA rfl) rfl (aA rfl) rfl c37 ?_
       refine tr1 rfl (cB (v := .d (.lit (.bool false))) (aA rfl) rfl c37 rfl rfl) ?_
       have h30 := Option.some.inj h30
       subst h30
       refine aG (bM rfl ⟨rfl, rfl, rfl, rfl, rfl, rfl, rfl, rfl, rfl, rfl, trivial⟩ rfl)
     ·refine aG ?_
      refine cA rfl (fun c31 => ?_) (fun c31 => ?_)
      ·have h := aX c31 h
       refine aC ?_
       refine tr1 rfl (aD (v := .d (.lit w22)) (aA rfl) rfl rfl) ?_
       refine tr1 rfl (aD (v := .d (.sl 5 (r2.map aS))) (aA rfl) rfl rfl) ?_
       refine tr1 rfl (aD (v := .d (.lit (.int .i64 k_4_21))) (aA rfl) rfl rfl) ?_
       obtain ⟨x32, h33, h⟩ := bind_some h
       refine tr1 rfl (bJ (aA rfl) rfl rfl iW.of (bP aS h33)) ?_
       refine tr1 rfl (cG (aA rfl) rfl mG (es := [.lit (.int .i64 x32.Player)]) rfl) ?_
       refine tr1 rfl (bZ (aA rfl) rfl bL) ?_
       refine tr1 rfl (eW (aA rfl) cT rfl rfl (rows := ([x32.Player]).map aP) rfl (dD (f := aP) fun _ => rfl) rfl (by decide)) ?_
       obtain ⟨x34, h35, h⟩ := bind_some h
       refine cE rfl (fC (i := 2) (aA rfl) cT rfl rfl rfl (fun _ => rfl) h35 rfl) ?_
       rintro _ ⟨v36, rfl⟩
       refine tr1 rfl (aH (v := .d (.lit v36)) (aA rfl) rfl rfl) ?_
       refine fB ?_
       refine aC ?_
       refine tr1 rfl (aD (v := .d (.lit (.int .i64 k_4_21))) (aA rfl) rfl rfl) ?_
       refine tr1 rfl (bT (aA rfl) rfl rfl rfl) ?_
       refine tr1 rfl (aH (v := .d (.lit (.int .i64 ((w64 (k_4_21 + 1)))))) (aA rfl) rfl rfl) ?_
       refine aG ?_
       exact ⟨(w64 (k_4_21 + 1), x34, v36), h, bE [0, 1, 2, 3] rfl rfl (aU rfl (aU rfl (bC ⟨rfl, rfl, rfl, rfl, rfl, rfl, rfl, rfl, trivial⟩)))⟩
      ·have h := aY c31 h
       refine dY ?_
       refine aC ?_
       refine tr1 rfl (aD (v := .d (.lit (.int .i64 k_4_21))) (aA rfl) rfl rfl) ?_
       refine tr1 rfl (bT (aA rfl) rfl rfl rfl) ?_
       refine tr1 rfl (aH (v := .d (.lit (.int .i64 ((w64 (k_4_21 + 1)))))) (aA rfl) rfl rfl) ?_
       refine aG ?_
       exact ⟨(w64 (k_4_21 + 1), nextv_4_21, w22), h, bE [0, 1, 2, 3] rfl rfl (aU rfl (aU rfl (bC ⟨rfl, rfl, rfl, rfl, rfl, rfl, rfl, rfl, trivial⟩)))⟩
   ·have h := aY c24 h
    refine dA ?_
    refine .inl ⟨rfl, ?_⟩
    simp only [kB] at h
    refine aF ?_
    refine aF ?_
    refine aC ?_
    refine tr1 rfl (aD (v := .d (.lit w22)) (aA rfl) rfl rfl) ?_
    refine tr1 rfl (kN (m := 2) (aA rfl) rfl rfl cT.of) ?_
    refine tr1 rfl (bR (aA rfl) rfl rfl rfl) ?_
    refine tr1 rfl (aD (v := .d (.lit (.bool ((decide (1 < (nextv_4_21.length : Int))))))) (aA rfl) rfl rfl) ?_
    obtain ⟨b43, h44, h⟩ := bind_some h
    refine cS 11 [2, 6, 7, 8, 9, 10, 11, 12, 13] 87 b43 ?_ ?_
    ·refine bY (decide (1 < (nextv_4_21.length : Int))) (fun c52 => ?_) (fun c52 => ?_)
     ·have h44 := aX c52 h44
      refine aO rfl rfl (aA rfl) rfl (aA rfl) rfl c52 ?_
      refine aO rfl rfl (aA rfl) rfl (aA rfl) rfl c52 ?_
      refine aO rfl rfl (aA rfl) rfl (aA rfl) rfl c52 ?_
      refine aO rfl rfl (aA rfl) rfl (aA rfl) rfl c52 ?_
      refine eE rfl rfl (aA rfl) rfl (aA rfl) rfl ?_
      refine eE rfl rfl (aA rfl) rfl (aA rfl) rfl ?_
      refine eE rfl rfl (aA rfl) rfl (aA rfl) rfl ?_
      refine eE rfl rfl (aA rfl) rfl (aA rfl) rfl ?_
      refine eE rfl rfl (aA rfl) rfl (aA rfl) rfl ?_
      refine aO rfl rfl (aA rfl) rfl (aA rfl) rfl c52 ?_
      refine tr1 rfl (cC (v := .d (.lit (.bool true))) (aA rfl) rfl c52 rfl rfl) ?_
      have h44 := Option.some.inj h44
      subst h44
      refine aG (bM rfl ⟨rfl, rfl, rfl, rfl, rfl, rfl, rfl, rfl, rfl, trivial⟩ rfl)
     ·have h44 := aY c52 h44
      refine aM rfl rfl (aA rfl) rfl c52 (aD (v := .d (.lit w22)) (aA rfl) rfl rfl) ?_
      refine aM rfl rfl (aA rfl) rfl c52 (kN (m := 2) (aA rfl) rfl rfl cT.of) ?_
      refine aM rfl rfl (aA rfl) rfl c52 (bR (aA rfl) rfl rfl rfl) ?_
      refine aM rfl rfl (aA rfl) rfl c52 (aD (v := .d (.lit (.bool ((decide ((nextv_4_21.length : Int) = 1)))))) (aA rfl) rfl rfl) ?_
      obtain ⟨b53, h54, h44⟩ := bind_some h44
      refine cS 6 [2, 6, 7, 8, 9, 10, 11, 12, 13, 76, 77, 78, 79, 80] 86 b53 ?_ ?_
      ·refine bY (decide ((nextv_4_21.length : Int) = 1)) (fun c55 => ?_) (fun c55 => ?_)
       ·have h54 := aX c55 h54
        refine aM rfl rfl (aA rfl) rfl c55 (aD (v := .d (.lit w17)) (aA rfl) rfl rfl) ?_
        refine aM rfl rfl (aA rfl) rfl c55 (aD (v := .d (.lit w22)) (aA rfl) rfl rfl) ?_
        obtain ⟨x56, h57, h54⟩ := bind_some h54
        refine aM rfl rfl (aA rfl) rfl c55 (eG (m := 2) (aA rfl) rfl rfl rfl cT.of (bP aP h57)) ?_
        refine aM rfl rfl (aA rfl) rfl c55 (iK (aA rfl) rfl (m := 2) rfl (jU aP h57) rfl bL) ?_
        obtain ⟨r58, h59, h54⟩ := bind_some h54
        refine aM rfl rfl (aA rfl) rfl c55 (cL (aA rfl) (.func _ _ Try.call130) rfl rfl (.cons (.d (gQ 3 rfl (dD (f := aP) fun _ => rfl))) (.cons (.same _) .nil)) (aDu _ _ h59) rfl) ?_
        refine aM rfl rfl (aA rfl) rfl c52 (cC (v := .d (.lit (.bool r58))) (aA rfl) rfl c55 rfl rfl) ?_
        have h54 := Option.some.inj h54
        subst h54
        refine aG (bM rfl ⟨rfl, rfl, rfl, rfl, rfl, rfl, rfl, rfl, rfl, rfl, rfl, rfl, rfl, rfl, trivial⟩ rfl)
       ·have h54 := aY c55 h54
        refine aO rfl rfl (aA rfl) rfl (aA rfl) rfl c55 ?_
        refine aO rfl rfl (aA rfl) rfl (aA rfl) rfl c55 ?_
        refine aO rfl rfl (aA rfl) rfl (aA rfl) rfl c55 ?_
        refine aO rfl rfl (aA rfl) rfl (aA rfl) rfl c55 ?_
        refine aO rfl rfl (aA rfl) rfl (aA rfl) rfl c55 ?_
        refine aM rfl rfl (aA rfl) rfl c52 (cB (v := .d (.lit (.bool false))) (aA rfl) rfl c55 rfl rfl) ?_
        have h54 := Option.some.inj h54
        subst h54
        refine aG (bM rfl ⟨rfl, rfl, rfl, rfl, rfl, rfl, rfl, rfl, rfl, rfl, rfl, rfl, rfl, rfl, trivial⟩ rfl)
      ·refine tr1 rfl (cB (v := .d (.lit (.bool b53))) (aA rfl) rfl c52 rfl rfl) ?_
       have h44 := Option.some.inj h44
       subst h44
       refine aG (bM rfl ⟨rfl, rfl, rfl, rfl, rfl, rfl, rfl, rfl, rfl, trivial⟩ rfl)
    ·refine aG ?_
     refine cA rfl (fun c45 => ?_) (fun c45 => ?_)
     ·have h := aX c45 h
      refine aF ?_
      refine aC ?_
      refine tr1 rfl (fZ 1 (aA rfl)) ?_
      refine tr1 rfl (aH (v := .d (.lit (.bool false))) (aA rfl) rfl rfl) ?_
      refine aG ?_
      have h := Option.some.inj h
      subst h
      refine cQ (cF (cN (l := [4, 5]) ⟨rfl, rfl, trivial⟩)) ?_
      exact bU ⟨rfl, _, .two _ _, rfl, rfl⟩
     ·have h := aY c45 h
      refine bX ?_
      refine aF ?_
      refine aC ?_
      refine tr1 rfl (aD (v := .d (.lit w22)) (aA rfl) rfl rfl) ?_
      refine tr1 rfl (kN (m := 2) (aA rfl) rfl rfl cT.of) ?_
      refine tr1 rfl (bR (aA rfl) rfl rfl rfl) ?_
      refine aG ?_
      refine cA rfl (fun c46 => ?_) (fun c46 => ?_)
      ·have h := aX c46 h
       refine aF ?_
       refine aC ?_
       refine tr1 rfl (aD (v := .d (.lit w22)) (aA rfl) rfl rfl) ?_
       obtain ⟨x47, h48, h⟩ := bind_some h
       refine tr1 rfl (eG (m := 2) (aA rfl) rfl rfl rfl cT.of (bP aP h48)) ?_
       refine tr1 rfl (iK (aA rfl) rfl (m := 2) rfl (jU aP h48) rfl bL) ?_
       refine tr1 rfl (aH (v := .d (.lit (.int .i64 x47))) (aA rfl) rfl rfl) ?_
       refine aG ?_
       refine aF ?_
       refine aC ?_
       refine tr1 rfl (aD (v := .d (.lit w17)) (aA rfl) rfl rfl) ?_
       refine tr1 rfl (aD (v := .d (.lit (.int .i64 x47))) (aA rfl) rfl rfl) ?_
       refine tr1 rfl (eW (aA rfl) cT rfl rfl (rows := ([x47]).map aP) rfl (dD (f := aP) fun _ => rfl) rfl (by decide)) ?_
       obtain ⟨x49, h50, h⟩ := bind_some h
       refine cE rfl (fC (i := 3) (aA rfl) cT rfl rfl rfl (fun _ => rfl) h50 rfl) ?_
       rintro _ ⟨v51, rfl⟩
       refine tr1 rfl (aH (v := .d (.lit v51)) (aA rfl) rfl rfl) ?_
       refine aG ?_
       refine aF ?_
       refine aC ?_
       refine tr1 rfl (aD (v := .d (.lit (.int .i64 used_2_16))) (aA rfl) rfl rfl) ?_
       refine tr1 rfl (bT (aA rfl) rfl rfl rfl) ?_
       refine tr1 rfl (aH (v := .d (.lit (.int .i64 ((w64 (used_2_16 + 1)))))) (aA rfl) rfl rfl) ?_
       refine aG ?_
       refine aC ?_
       refine tr1 rfl (aH (v := .d (.lit (.bool true))) (aA rfl) rfl rfl) ?_
       refine fB ?_
       simp only [iU] at h
       exact ⟨(w64 (used_2_16 + 1), x47, true, x49, v51), h, bE [0, 1, 3] rfl rfl (aU rfl (aU rfl (aU rfl (aU rfl (bC ⟨rfl, rfl, rfl, rfl, trivial⟩)))))⟩
      ·have h := aY c46 h
       refine dY ?_
       simp only [iU] at h
       exact ⟨(used_2_16, now_2_16, false, o18_2_16, w17), h, bE [0, 1, 3] rfl rfl (aU rfl (aU rfl (aU rfl (aU rfl (bC ⟨rfl, rfl, rfl, rfl, trivial⟩)))))⟩
  ·have h := aY c19 h
   refine dA ?_
   refine .inl ⟨rfl, ?_⟩
   simp only [lS] at h
   refine aC ?_
   refine tr1 rfl (aD (v := .d (.lit w10)) (aA rfl) rfl rfl) ?_
   refine tr1 rfl (aD (v := .d (.lit (.int .i64 now_2_16))) (aA rfl) rfl rfl) ?_
   refine tr1 rfl (eW (aA rfl) cT rfl rfl (rows := ([now_2_16]).map aP) rfl (dD (f := aP) fun _ => rfl) rfl (by decide)) ?_
   obtain ⟨x60, h61, h⟩ := bind_some h
   refine cE rfl (fC (i := 1) (aA rfl) cT rfl rfl rfl (fun _ => rfl) h61 rfl) ?_
   rintro _ ⟨v62, rfl⟩
   refine tr1 rfl (aH (v := .d (.lit v62)) (aA rfl) rfl rfl) ?_
   refine fB ?_
   simp only [oG] at h
   refine aC ?_
   refine tr1 rfl (aD (v := .d (.lit (.int .i64 i_0_9))) (aA rfl) rfl rfl) ?_
   refine tr1 rfl (bT (aA rfl) rfl rfl rfl) ?_
   refine tr1 rfl (aH (v := .d (.lit (.int .i64 ((w64 (i_0_9 + 1)))))) (aA rfl) rfl rfl) ?_
   refine aG ?_
   exact ⟨(used_2_16, w64 (i_0_9 + 1), x60, o18_2_16, v62, w17), h, bE [0, 1, 2] rfl rfl (aU rfl (aU rfl (aU rfl (aU rfl (bC ⟨rfl, rfl, trivial⟩)))))⟩
 ·have h := aY c13 h
  refine dA ?_
  refine .inl ⟨rfl, ?_⟩
  simp only [oF] at h
  refine aF ?_
  refine aF ?_
  refine aC ?_
  refine tr1 rfl (aH (v := .d (.lit (.int .i64 0))) (aA rfl) rfl rfl) ?_
  refine aG ?_
  refine cO ?_
  refine dG [6, 8] (fun (s63 : Int × Int) => [(9, .d (.lit (.int .i64 s63.1))), (15, .d (.lit (.int .i64 s63.2)))]) (fun (s63 : Int × Int) => [.arr w10 3 1 (out_0_9.map aP)]) (fun (k : Nat) (s63 : Int × Int) => fF r2 out_0_9 k s63.1 s63.2) (fun _ => rfl) (used_0_9, 0) h (bE [1] rfl rfl (aU rfl (aU rfl (bC ⟨rfl, rfl, trivial⟩)))) ?_
  rintro k64 ⟨used_6_63, k_6_63⟩ h
  simp only [fF] at h
  refine aF ?_
  refine aF ?_
  refine aC ?_
  refine tr1 rfl (aD (v := .d (.lit (.int .i64 k_6_63))) (aA rfl) rfl rfl) ?_
  refine tr1 rfl (aD (v := .d (.sl 5 (r2.map aS))) (aA rfl) rfl rfl) ?_
  refine tr1 rfl (dC (aA rfl) rfl iW.of) ?_
  refine tr1 rfl (bR (aA rfl) rfl rfl rfl) ?_
  refine aG ?_
  refine cA rfl (fun c65 => ?_) (fun c65 => ?_)
  ·have h := aX c65 h
   refine bX ?_
   refine aF ?_
   refine cO ?_
   refine aF ?_
   refine aC ?_
   refine tr1 rfl (aD (v := .d (.sl 5 (r2.map aS))) (aA rfl) rfl rfl) ?_
   refine tr1 rfl (aD (v := .d (.lit (.int .i64 k_6_63))) (aA rfl) rfl rfl) ?_
   obtain ⟨x66, h67, h⟩ := bind_some h
   refine tr1 rfl (bJ (aA rfl) rfl rfl iW.of (bP aS h67)) ?_
   refine tr1 rfl (cG (aA rfl) rfl nL (es := [.lit (.int .i64 x66.Kind)]) rfl) ?_
   refine tr1 rfl (bZ (aA rfl) rfl bL) ?_
   refine tr1 rfl (bR (aA rfl) rfl rfl rfl) ?_
   refine aG ?_
   refine cA rfl (fun c68 => ?_) (fun c68 => ?_)
   ·have h := aX c68 h
    refine aC ?_
    refine tr1 rfl (aD (v := .d (.lit (.int .i64 used_6_63))) (aA rfl) rfl rfl) ?_
    refine tr1 rfl (bT (aA rfl) rfl rfl rfl) ?_
    refine tr1 rfl (aH (v := .d (.lit (.int .i64 ((w64 (used_6_63 - 1)))))) (aA rfl) rfl rfl) ?_
    refine fB ?_
    refine aC ?_
    refine tr1 rfl (aD (v := .d (.lit (.int .i64 k_6_63))) (aA rfl) rfl rfl) ?_
    refine tr1 rfl (bT (aA rfl) rfl rfl rfl) ?_
    refine tr1 rfl (aH (v := .d (.lit (.int .i64 ((w64 (k_6_63 + 1)))))) (aA rfl) rfl rfl) ?_
    refine aG ?_
    exact ⟨(w64 (used_6_63 - 1), w64 (k_6_63 + 1)), h, bE [0] rfl rfl (aU rfl (aU rfl (bC ⟨rfl, rfl, trivial⟩)))⟩
   ·have h := aY c68 h
    refine dY ?_
    refine aC ?_
    refine tr1 rfl (aD (v := .d (.lit (.int .i64 k_6_63))) (aA rfl) rfl rfl) ?_
    refine tr1 rfl (bT (aA rfl) rfl rfl rfl) ?_
    refine tr1 rfl (aH (v := .d (.lit (.int .i64 ((w64 (k_6_63 + 1)))))) (aA rfl) rfl rfl) ?_
    refine aG ?_
    exact ⟨(used_6_63, w64 (k_6_63 + 1)), h, bE [0] rfl rfl (aU rfl (aU rfl (bC ⟨rfl, rfl, trivial⟩)))⟩
  ·have h := aY c65 h
   refine dA ?_
   refine .inl ⟨rfl, ?_⟩
   simp only [oH] at h
   refine aF ?_
   refine aC ?_
   refine tr1 rfl (aD (v := .d (.lit w10)) (aA rfl) rfl rfl) ?_
   refine tr1 rfl (aD (v := .d (.lit (.int .i64 used_6_63))) (aA rfl) rfl rfl) ?_
   refine tr1 rfl (bR (aA rfl) rfl rfl rfl) ?_
   refine tr1 rfl (aH (v := .d (.lit w10)) (aA rfl) rfl rfl) ?_
   refine tr1 rfl (aH (v := .d (.lit (.bool ((decide (used_6_63 = 0)))))) (aA rfl) rfl rfl) ?_
   refine aG ?_
   have h := Option.some.inj h
   subst h
   refine cQ (cF (fM (k := 5) (v := .d (.lit (.bool ((decide (used_6_63 = 0)))))) (.same _) (fM (k := 4) (v := .d (.sl 1 (out_0_9.map aP))) (.d (gQ 0 rfl (dD (f := aP) fun _ => rfl))) (qL)))) ?_
   exact bU ⟨rfl, _, .two _ _, rfl, rfl⟩

end Go.Am
