/- The functions compute what the shallow ones say: printed by program. -/
import Derived.Test.YtikcmpflkibomaaPlayDrawSimP2
namespace Go.Am
open Go.Proofs
set_option maxRecDepth 100000
set_option maxHeartbeats 4000000

theorem wB (t_0 : aV) (l_1 : List aJ) (stages_2 : List cX) {r : Bool} (h : lR t_0 l_1 stages_2 = some r) : Fn Try.prog 12 [.agg (bS t_0), .d (.sl 5 (l_1.map aY)), .d (.sl 3 (stages_2.map cD))] (.d (.lit (.bool r))) := by
 unfold lR at h
 refine Fn.of_tr Try.func12 rfl (rs := [.tmp 6]) Try.results12 Try.ntmps12 (Nat.le_of_ble_eq_true rfl) ?_
 refine aH ?_
 refine aE ?_
 refine cI rfl (eU (v := .agg (bS t_0)) (aA rfl) rfl rfl rfl) ?_
 rintro _ ⟨b1, rfl⟩
 refine tr1 rfl (aK (v := .d (.lit (.bool false))) (aA rfl) rfl rfl) ?_
 refine aI ?_
 refine aH ?_
 refine aH ?_
 refine aE ?_
 refine tr1 rfl (aN (aA rfl) rfl mQ) ?_
 refine tr1 rfl (aQ (aA rfl) rfl (i := 0) rfl rfl eI) ?_
 refine tr1 rfl (dC (aA rfl) rfl dV.of) ?_
 refine tr1 rfl (bP (aA rfl) rfl rfl rfl) ?_
 refine tr1 rfl (aD (v := .d (.lit (.bool ((decide (40 < (t_0.Slots.length : Int))))))) (aA rfl) rfl rfl) ?_
 obtain ⟨b2, h3, h⟩ := bind_some h
 refine dD 4 [1, 2, 3] 28 b2 ?_ ?_
 ·refine cA (decide (40 < (t_0.Slots.length : Int))) (fun c113 => ?_) (fun c113 => ?_)
  ·have h3 := bB c113 h3
   refine aX rfl rfl (aA rfl) rfl (aA rfl) rfl c113 ?_
   refine aX rfl rfl (aA rfl) rfl (aA rfl) rfl c113 ?_
   refine aX rfl rfl (aA rfl) rfl (aA rfl) rfl c113 ?_
   refine tr1 rfl (bR (v := .d (.lit (.bool true))) (aA rfl) rfl c113 rfl rfl) ?_
   have h3 := Option.some.inj h3
   subst h3
   refine aI (bT rfl ⟨rfl, rfl, rfl, trivial⟩ rfl)
  ·have h3 := bD c113 h3
   refine aU rfl rfl (aA rfl) rfl c113 (aD (v := .d (.sl 5 (l_1.map aY))) (aA rfl) rfl rfl) ?_
   refine aU rfl rfl (aA rfl) rfl c113 (dC (aA rfl) rfl vN.of) ?_
   refine aU rfl rfl (aA rfl) rfl c113 (bP (aA rfl) rfl rfl rfl) ?_
   refine tr1 rfl (bQ (v := .d (.lit (.bool ((decide (20 < (l_1.length : Int))))))) (aA rfl) rfl c113 rfl rfl) ?_
   have h3 := Option.some.inj h3
   subst h3
   refine aI (bT rfl ⟨rfl, rfl, rfl, trivial⟩ rfl)
 ·refine tr1 rfl (aD (v := .d (.lit (.bool b2))) (aA rfl) rfl rfl) ?_
  obtain ⟨b4, h5, h⟩ := bind_some h
  refine dD 4 [1, 2, 3] 33 b4 ?_ ?_
  ·refine cA (b2) (fun c112 => ?_) (fun c112 => ?_)
   ·have h5 := bB c112 h5
    refine aX rfl rfl (aA rfl) rfl (aA rfl) rfl c112 ?_
    refine aX rfl rfl (aA rfl) rfl (aA rfl) rfl c112 ?_
    refine aX rfl rfl (aA rfl) rfl (aA rfl) rfl c112 ?_
    refine tr1 rfl (bR (v := .d (.lit (.bool true))) (aA rfl) rfl c112 rfl rfl) ?_
    have h5 := Option.some.inj h5
    subst h5
    refine aI (bT rfl ⟨rfl, rfl, rfl, trivial⟩ rfl)
   ·have h5 := bD c112 h5
    refine aU rfl rfl (aA rfl) rfl c112 (aD (v := .d (.sl 3 (stages_2.map cD))) (aA rfl) rfl rfl) ?_
    refine aU rfl rfl (aA rfl) rfl c112 (dC (aA rfl) rfl mW.of) ?_
    refine aU rfl rfl (aA rfl) rfl c112 (bP (aA rfl) rfl rfl rfl) ?_
    refine tr1 rfl (bQ (v := .d (.lit (.bool ((decide (20 < (stages_2.length : Int))))))) (aA rfl) rfl c112 rfl rfl) ?_
    have h5 := Option.some.inj h5
    subst h5
    refine aI (bT rfl ⟨rfl, rfl, rfl, trivial⟩ rfl)
  ·refine aI ?_
   refine cK rfl (fun c6 => ?_) (fun c6 => ?_)
   ·have h := bB c6 h
    refine aH ?_
    refine aE ?_
    obtain ⟨r7, h8, h⟩ := bind_some h
    refine tr1 rfl (cQ (aA rfl) (.func _ _ Try.call16) rfl rfl (BVs.refl _ _) (oL h8) rfl) ?_
    refine tr1 rfl (aK (v := .d (.lit (.bool r7))) (aA rfl) rfl rfl) ?_
    refine aI ?_
    have h := Option.some.inj h
    subst h
    refine cT (cR (cU (l := [6]) ⟨rfl, trivial⟩)) ?_
    exact cB ⟨rfl, _, .one _, rfl, rfl⟩
   ·have h := bD c6 h
    refine cF ?_
    refine aH ?_
    refine aE ?_
    refine tr1 rfl (bO (aA rfl) rfl (i := 0) rfl kQ (es := (bS t_0)) rfl rfl) ?_
    refine tr1 rfl (aD (v := .d (.sl 5 (l_1.map aY))) (aA rfl) rfl rfl) ?_
    refine tr1 rfl (aD (v := .d (.sl 3 (stages_2.map cD))) (aA rfl) rfl rfl) ?_
    obtain ⟨r9, h10, h⟩ := bind_some h
    refine tr1 rfl (iX (aA rfl) (.func _ _ Try.call42) rfl rfl (aAy _ _ _ h10)) ?_
    refine tr1 rfl (aD (v := .tup [.d (.sl 6 (r9.1.map aT)), .d (.sl 4 (r9.2.1.map bY)), .d (.lit (.int .i64 r9.2.2))]) (aA rfl) rfl rfl) ?_
    refine tr1 rfl (bZ (aA rfl) rfl rfl) ?_
    refine tr1 rfl (bZ (aA rfl) rfl rfl) ?_
    refine tr1 rfl (bZ (aA rfl) rfl rfl) ?_
    refine tr1 rfl (aK (v := .d (.sl 6 (r9.1.map aT))) (aA rfl) rfl rfl) ?_
    refine tr1 rfl (aK (v := .d (.sl 4 (r9.2.1.map bY))) (aA rfl) rfl rfl) ?_
    refine tr1 rfl (aK (v := .d (.lit (.int .i64 r9.2.2))) (aA rfl) rfl rfl) ?_
    refine aI ?_
    refine aH ?_
    refine aH ?_
    refine aE ?_
    refine tr1 rfl (aD (v := .d (.lit (.int .i64 r9.2.2))) (aA rfl) rfl rfl) ?_
    refine tr1 rfl (bP (aA rfl) rfl rfl rfl) ?_
    refine aI ?_
    refine cK rfl (fun c11 => ?_) (fun c11 => ?_)
    ·have h := bB c11 h
     refine aH ?_
     refine aE ?_
     refine tr1 rfl (aD (v := .d (.sl 6 (r9.1.map aT))) (aA rfl) rfl rfl) ?_
     refine tr1 rfl (dC (aA rfl) rfl eE.of) ?_
     refine tr1 rfl (bP (aA rfl) rfl rfl rfl) ?_
     refine tr1 rfl (aD (v := .d (.lit (.bool ((decide ((r9.1.length : Int) = 0)))))) (aA rfl) rfl rfl) ?_
     obtain ⟨b12, h13, h⟩ := bind_some h
     refine dD 4 [] 52 b12 ?_ ?_
     ·refine cA (decide ((r9.1.length : Int) = 0)) (fun c19 => ?_) (fun c19 => ?_)
      ·have h13 := bB c19 h13
       refine aU rfl rfl (aA rfl) rfl c19 (aD (v := .d (.sl 4 (r9.2.1.map bY))) (aA rfl) rfl rfl) ?_
       refine aU rfl rfl (aA rfl) rfl c19 (dC (aA rfl) rfl oI.of) ?_
       refine aU rfl rfl (aA rfl) rfl c19 (bP (aA rfl) rfl rfl rfl) ?_
       refine tr1 rfl (bR (v := .d (.lit (.bool ((decide ((r9.2.1.length : Int) = 0)))))) (aA rfl) rfl c19 rfl rfl) ?_
       have h13 := Option.some.inj h13
       subst h13
       refine aI (bT rfl trivial rfl)
      ·have h13 := bD c19 h13
       refine aX rfl rfl (aA rfl) rfl (aA rfl) rfl c19 ?_
       refine aX rfl rfl (aA rfl) rfl (aA rfl) rfl c19 ?_
       refine aX rfl rfl (aA rfl) rfl (aA rfl) rfl c19 ?_
       refine tr1 rfl (bQ (v := .d (.lit (.bool false))) (aA rfl) rfl c19 rfl rfl) ?_
       have h13 := Option.some.inj h13
       subst h13
       refine aI (bT rfl trivial rfl)
     ·refine tr1 rfl (aD (v := .d (.lit (.bool b12))) (aA rfl) rfl rfl) ?_
      obtain ⟨b14, h15, h⟩ := bind_some h
      refine dD 2 [] 55 b14 ?_ ?_
      ·refine cA (b12) (fun c16 => ?_) (fun c16 => ?_)
       ·have h15 := bB c16 h15
        obtain ⟨r17, h18, h15⟩ := bind_some h15
        refine aU rfl rfl (aA rfl) rfl c16 (cQ (aA rfl) (.func _ _ Try.call16) rfl rfl (BVs.refl _ _) (oL h18) rfl) ?_
        refine tr1 rfl (bR (v := .d (.lit (.bool r17))) (aA rfl) rfl c16 rfl rfl) ?_
        have h15 := Option.some.inj h15
        subst h15
        refine aI (bT rfl trivial rfl)
       ·have h15 := bD c16 h15
        refine aX rfl rfl (aA rfl) rfl (aA rfl) rfl c16 ?_
        refine tr1 rfl (bQ (v := .d (.lit (.bool false))) (aA rfl) rfl c16 rfl rfl) ?_
        have h15 := Option.some.inj h15
        subst h15
        refine aI (bT rfl trivial rfl)
      ·refine tr1 rfl (aK (v := .d (.lit (.bool b14))) (aA rfl) rfl rfl) ?_
       refine aI ?_
       have h := Option.some.inj h
       subst h
       refine cT (cR (cU (l := [6]) ⟨rfl, trivial⟩)) ?_
       exact cB ⟨rfl, _, .one _, rfl, rfl⟩
    ·have h := bD c11 h
     refine cF ?_
     refine aH ?_
     refine aH ?_
     refine aE ?_
     refine tr1 rfl (aD (v := .d (.sl 6 (r9.1.map aT))) (aA rfl) rfl rfl) ?_
     refine tr1 rfl (dC (aA rfl) rfl eE.of) ?_
     refine tr1 rfl (aD (v := .d (.sl 4 (r9.2.1.map bY))) (aA rfl) rfl rfl) ?_
     refine tr1 rfl (dC (aA rfl) rfl oI.of) ?_
     refine tr1 rfl (bP (aA rfl) rfl rfl rfl) ?_
     refine tr1 rfl (aD (v := .d (.lit (.bool ((!decide ((r9.1.length : Int) = (r9.2.1.length : Int))))))) (aA rfl) rfl rfl) ?_
     obtain ⟨b20, h21, h⟩ := bind_some h
     refine dD 4 [1, 2, 3, 7, 8] 65 b20 ?_ ?_
     ·refine cA (!decide ((r9.1.length : Int) = (r9.2.1.length : Int))) (fun c111 => ?_) (fun c111 => ?_)
      ·have h21 := bB c111 h21
       refine aX rfl rfl (aA rfl) rfl (aA rfl) rfl c111 ?_
       refine aX rfl rfl (aA rfl) rfl (aA rfl) rfl c111 ?_
       refine aX rfl rfl (aA rfl) rfl (aA rfl) rfl c111 ?_
       refine tr1 rfl (bR (v := .d (.lit (.bool true))) (aA rfl) rfl c111 rfl rfl) ?_
       have h21 := Option.some.inj h21
       subst h21
       refine aI (bT rfl ⟨rfl, rfl, rfl, rfl, rfl, trivial⟩ rfl)
      ·have h21 := bD c111 h21
       refine aU rfl rfl (aA rfl) rfl c111 (aD (v := .d (.sl 6 (r9.1.map aT))) (aA rfl) rfl rfl) ?_
       refine aU rfl rfl (aA rfl) rfl c111 (dC (aA rfl) rfl eE.of) ?_
       refine aU rfl rfl (aA rfl) rfl c111 (bP (aA rfl) rfl rfl rfl) ?_
       refine tr1 rfl (bQ (v := .d (.lit (.bool ((decide (6 < (r9.1.length : Int))))))) (aA rfl) rfl c111 rfl rfl) ?_
       have h21 := Option.some.inj h21
       subst h21
       refine aI (bT rfl ⟨rfl, rfl, rfl, rfl, rfl, trivial⟩ rfl)
     ·refine tr1 rfl (aD (v := .d (.lit (.bool b20))) (aA rfl) rfl rfl) ?_
      obtain ⟨b22, h23, h⟩ := bind_some h
      refine dD 6 [1, 2, 3, 7, 8] 72 b22 ?_ ?_
      ·refine cA (b20) (fun c110 => ?_) (fun c110 => ?_)
       ·have h23 := bB c110 h23
        refine aX rfl rfl (aA rfl) rfl (aA rfl) rfl c110 ?_
        refine aX rfl rfl (aA rfl) rfl (aA rfl) rfl c110 ?_
        refine aX rfl rfl (aA rfl) rfl (aA rfl) rfl c110 ?_
        refine aX rfl rfl (aA rfl) rfl (aA rfl) rfl c110 ?_
        refine aX rfl rfl (aA rfl) rfl (aA rfl) rfl c110 ?_
        refine tr1 rfl (bR (v := .d (.lit (.bool true))) (aA rfl) rfl c110 rfl rfl) ?_
        have h23 := Option.some.inj h23
        subst h23
        refine aI (bT rfl ⟨rfl, rfl, rfl, rfl, rfl, trivial⟩ rfl)
       ·have h23 := bD c110 h23
        refine aU rfl rfl (aA rfl) rfl c110 (aD (v := .d (.sl 3 (stages_2.map cD))) (aA rfl) rfl rfl) ?_
        refine aU rfl rfl (aA rfl) rfl c110 (dC (aA rfl) rfl mW.of) ?_
        refine aU rfl rfl (aA rfl) rfl c110 (aN (aA rfl) rfl jG) ?_
        refine aU rfl rfl (aA rfl) rfl c110 (aQ (aA rfl) rfl (i := 0) rfl rfl bL) ?_
        refine aU rfl rfl (aA rfl) rfl c110 (bP (aA rfl) rfl rfl rfl) ?_
        refine tr1 rfl (bQ (v := .d (.lit (.bool ((!decide ((stages_2.length : Int) = t_0.Rounds)))))) (aA rfl) rfl c110 rfl rfl) ?_
        have h23 := Option.some.inj h23
        subst h23
        refine aI (bT rfl ⟨rfl, rfl, rfl, rfl, rfl, trivial⟩ rfl)
      ·refine tr1 rfl (aD (v := .d (.lit (.bool b22))) (aA rfl) rfl rfl) ?_
       obtain ⟨b24, h25, h⟩ := bind_some h
       refine dD 5 [1, 2, 3, 7, 8] 78 b24 ?_ ?_
       ·refine cA (b22) (fun c107 => ?_) (fun c107 => ?_)
        ·have h25 := bB c107 h25
         refine aX rfl rfl (aA rfl) rfl (aA rfl) rfl c107 ?_
         refine aX rfl rfl (aA rfl) rfl (aA rfl) rfl c107 ?_
         refine aX rfl rfl (aA rfl) rfl (aA rfl) rfl c107 ?_
         refine aX rfl rfl (aA rfl) rfl (aA rfl) rfl c107 ?_
         refine tr1 rfl (bR (v := .d (.lit (.bool true))) (aA rfl) rfl c107 rfl rfl) ?_
         have h25 := Option.some.inj h25
         subst h25
         refine aI (bT rfl ⟨rfl, rfl, rfl, rfl, rfl, trivial⟩ rfl)
        ·have h25 := bD c107 h25
         refine aU rfl rfl (aA rfl) rfl c107 (bO (aA rfl) rfl (i := 0) rfl kQ (es := (bS t_0)) rfl rfl) ?_
         refine aU rfl rfl (aA rfl) rfl c107 (aD (v := .d (.sl 5 (l_1.map aY))) (aA rfl) rfl rfl) ?_
         obtain ⟨r108, h109, h25⟩ := bind_some h25
         refine aU rfl rfl (aA rfl) rfl c107 (cQ (aA rfl) (.func _ _ Try.call44) rfl rfl (BVs.refl _ _) (aCc _ _ h109) rfl) ?_
         refine aU rfl rfl (aA rfl) rfl c107 (bP (aA rfl) rfl rfl rfl) ?_
         refine tr1 rfl (bQ (v := .d (.lit (.bool ((!decide (r108 = 0)))))) (aA rfl) rfl c107 rfl rfl) ?_
         have h25 := Option.some.inj h25
         subst h25
         refine aI (bT rfl ⟨rfl, rfl, rfl, rfl, rfl, trivial⟩ rfl)
       ·refine aI ?_
        refine cK rfl (fun c26 => ?_) (fun c26 => ?_)
        ·have h := bB c26 h
         refine aH ?_
         refine aE ?_
         refine tr1 rfl (aK (v := .d (.lit (.bool false))) (aA rfl) rfl rfl) ?_
         refine aI ?_
         have h := Option.some.inj h
         subst h
         refine cT (cR (cU (l := [6]) ⟨rfl, trivial⟩)) ?_
         exact cB ⟨rfl, _, .one _, rfl, rfl⟩
        ·have h := bD c26 h
         refine cF ?_
         refine aH ?_
         refine aH ?_
         refine aE ?_
         refine tr1 rfl (aK (v := .d (.lit (.int .i64 0))) (aA rfl) rfl rfl) ?_
         refine aI ?_
         refine cW ?_
         refine dY [1, 2, 3, 7, 8] (fun (s27 : Int) => [(10, .d (.lit (.int .i64 s27)))]) (fun (s27 : Int) => [.box b1 0 (bS t_0)]) (fun (k : Nat) (s27 : Int) => dS l_1 stages_2 r9.1 r9.2.1 t_0 k s27) (fun _ => rfl) (0) h (bI [0] rfl rfl (aZ rfl (bC ⟨rfl, rfl, rfl, rfl, rfl, trivial⟩))) ?_
         rintro k28 i_0_27 h
         simp only [dS] at h
         refine aH ?_
         refine aH ?_
         refine aE ?_
         refine tr1 rfl (aD (v := .d (.lit (.int .i64 i_0_27))) (aA rfl) rfl rfl) ?_
         refine tr1 rfl (aD (v := .d (.sl 6 (r9.1.map aT))) (aA rfl) rfl rfl) ?_
         refine tr1 rfl (dC (aA rfl) rfl eE.of) ?_
         refine tr1 rfl (bP (aA rfl) rfl rfl rfl) ?_
         refine aI ?_
         refine cK rfl (fun c29 => ?_) (fun c29 => ?_)
         ·have h := bB c29 h
          refine cF ?_
          refine aH ?_
          refine cW ?_
          refine aH ?_
          refine aE ?_
          refine tr1 rfl (aD (v := .d (.sl 4 (r9.2.1.map bY))) (aA rfl) rfl rfl) ?_
          refine tr1 rfl (aD (v := .d (.lit (.int .i64 i_0_27))) (aA rfl) rfl rfl) ?_
          obtain ⟨x30, h31, h⟩ := bind_some h
          refine tr1 rfl (bU (aA rfl) rfl rfl oI.of (cE bY h31)) ?_
          refine tr1 rfl (dE (aA rfl) rfl yN (es := (bY x30)) rfl rfl) ?_
          refine cI rfl (dM (zs := [.lit (.int .i64 0), .lit (.int .i64 0), .lit (.int .i64 0), .lit (.int .i64 0)]) (aA rfl) Try.zeroValue73 rfl rfl) ?_
          rintro _ ⟨b32, rfl⟩
          refine tr1 rfl (cL (i := 1) rfl rfl rfl rfl rfl Try.sizeOf73 rfl (aA rfl) (Nat.le_of_ble_eq_true rfl) (ds' := (bY x30)) rfl) ?_
          refine aI ?_
          refine aH ?_
          refine aE ?_
          refine tr1 rfl (bO (aA rfl) rfl (i := 0) rfl kQ (es := (bS t_0)) rfl rfl) ?_
          refine tr1 rfl (aD (v := .d (.sl 5 (l_1.map aY))) (aA rfl) rfl rfl) ?_
          refine tr1 rfl (aN (aA rfl) rfl dW) ?_
          refine tr1 rfl (aQ (aA rfl) rfl (i := 1) rfl rfl bL) ?_
          refine tr1 rfl (aN (aA rfl) rfl rO) ?_
          refine tr1 rfl (aQ (aA rfl) rfl (i := 1) rfl rfl bL) ?_
          obtain ⟨r33, h34, h⟩ := bind_some h
          refine tr1 rfl (cQ (aA rfl) (.func _ _ Try.call45) rfl rfl (BVs.refl _ _) (tV _ _ _ _ h34) rfl) ?_
          refine tr1 rfl (aD (v := .tup [.d (.lit (.int .i64 r33.1)), .d (.lit (.int .i64 r33.2))]) (aA rfl) rfl rfl) ?_
          refine tr1 rfl (bZ (aA rfl) rfl rfl) ?_
          refine tr1 rfl (bZ (aA rfl) rfl rfl) ?_
          refine tr1 rfl (aK (v := .d (.lit (.int .i64 r33.1))) (aA rfl) rfl rfl) ?_
          refine tr1 rfl (aK (v := .d (.lit (.int .i64 r33.2))) (aA rfl) rfl rfl) ?_
          refine aI ?_
          refine aH ?_
          refine aH ?_
          obtain ⟨b35, h36, h⟩ := bind_some h
          obtain ⟨b38, h39, h⟩ := bind_some h
          obtain ⟨b41, h42, h⟩ := bind_some h
          obtain ⟨b48, h49, h⟩ := bind_some h
          obtain ⟨b55, h56, h⟩ := bind_some h
          obtain ⟨b60, h61, h⟩ := bind_some h
          obtain ⟨b65, h66, h⟩ := bind_some h
          refine eS mix 68 [1, 2, 3, 7, 8, 10, 11] [(166, .d (.lit (.bool b65)))] ?_ ?_
          ·refine cA (!decide (r33.2 = 3)) (fun c37 => ?_) (fun c37 => ?_)
           ·have h36 := bB c37 h36
            have h36 := Option.some.inj h36
            subst h36
            have c40 : true = true := rfl
            have h39 := bB c40 h39
            have h39 := Option.some.inj h39
            subst h39
            have c43 : true = true := rfl
            have h42 := bB c43 h42
            have h42 := Option.some.inj h42
            subst h42
            have c50 : true = true := rfl
            have h49 := bB c50 h49
            have h49 := Option.some.inj h49
            subst h49
            have c57 : true = true := rfl
            have h56 := bB c57 h56
            have h56 := Option.some.inj h56
            subst h56
            have c62 : true = true := rfl
            have h61 := bB c62 h61
            have h61 := Option.some.inj h61
            subst h61
            have c67 : true = true := rfl
            have h66 := bB c67 h66
            have h66 := Option.some.inj h66
            subst h66
            refine ⟨[(99, 0, .d (.lit (.int .i64 r33.2))), (100, 1, .d (.lit (.bool ((!decide (r33.2 = 3)))))), (101, 2, .d (.lit (.bool ((!decide (r33.2 = 3)))))), (102, 3, .tup []), (103, 4, .tup []), (104, 5, .tup []), (105, 6, .d (.lit (.bool true))), (106, 7, .d (.lit (.bool (true)))), (107, 8, .tup []), (108, 9, .tup []), (109, 10, .tup []), (110, 11, .tup []), (111, 12, .tup []), (112, 13, .d (.lit (.bool true))), (113, 14, .d (.lit (.bool (true)))), (114, 15, .tup []), (115, 16, .tup []), (116, 17, .tup []), (117, 18, .tup []), (118, 19, .tup []), (119, 20, .tup []), (120, 21, .tup []), (121, 22, .tup []), (122, 23, .tup []), (123, 24, .tup []), (124, 25, .tup []), (125, 26, .tup []), (126, 27, .d (.lit (.bool true))), (127, 28, .d (.lit (.bool (true)))), (128, 29, .tup []), (129, 30, .tup []), (130, 31, .tup []), (131, 32, .tup []), (132, 33, .tup []), (133, 34, .tup []), (134, 35, .tup []), (135, 36, .tup []), (136, 37, .tup []), (137, 38, .tup []), (138, 39, .tup []), (139, 40, .tup []), (140, 41, .d (.lit (.bool true))), (141, 42, .d (.lit (.bool (true)))), (142, 43, .tup []), (143, 44, .tup []), (144, 45, .tup []), (145, 46, .tup []), (146, 47, .tup []), (147, 48, .tup []), (148, 49, .d (.lit (.bool true))), (149, 50, .d (.lit (.bool (true)))), (150, 51, .tup []), (151, 52, .tup []), (152, 53, .tup []), (153, 54, .tup []), (154, 55, .tup []), (155, 56, .tup []), (156, 57, .tup []), (157, 58, .d (.lit (.bool true))), (158, 59, .d (.lit (.bool (true)))), (159, 60, .tup []), (160, 61, .tup []), (161, 62, .tup []), (162, 63, .tup []), (163, 64, .tup []), (164, 65, .tup []), (165, 66, .tup []), (166, 67, .d (.lit (.bool true)))], ?_, ?_⟩
            · exact ⟨by kernel_rfl, by kernel_rfl, by kernel_rfl, by kernel_rfl, by kernel_rfl, [([], []), ([0], []), ([1], []), ([2], []), ([2, 3], []), ([2, 4], []), ([2, 5], []), ([6], []), ([7], []), ([7, 8], []), ([7], []), ([7, 10], []), ([7, 9, 11], []), ([7, 12], []), ([13], []), ([14], []), ([14], []), ([14, 15, 16], []), ([14, 17], []), ([14, 18], []), ([14], []), ([14], []), ([14, 21], []), ([14, 20, 22], []), ([14, 23], []), ([14, 24], []), ([14, 19, 25], []), ([14, 26], []), ([27], []), ([28], []), ([28], []), ([28, 29, 30], []), ([28, 31], []), ([28, 32], []), ([28], []), ([28], []), ([28, 35], []), ([28, 34, 36], []), ([28, 37], []), ([28, 38], []), ([28, 33, 39], []), ([28, 40], []), ([41], []), ([42], []), ([42], []), ([42, 43, 44], []), ([42, 45], []), ([42, 46], []), ([42, 47], []), ([42, 48], []), ([49], []), ([50], []), ([50], []), ([50, 51, 52], []), ([50, 53], []), ([50, 54], []), ([50, 55], []), ([50, 56], []), ([50, 57], []), ([58], []), ([59], []), ([59], []), ([59, 60, 61], []), ([59, 62], []), ([59, 63], []), ([59, 64], []), ([59, 65], []), ([59, 66], [])], by kernel_rfl, ⟨fun S hS => aB rfl (aL rfl (aD (v := .d (.lit (.int .i64 r33.2))) (aA rfl) (aC hS rfl) rfl)),
      fun S hS => aB rfl (aL rfl (bP (aA rfl) (aC hS rfl) rfl rfl)),
      fun S hS => aB rfl (aL rfl (aD (v := .d (.lit (.bool ((!decide (r33.2 = 3)))))) (aA rfl) (aC hS rfl) rfl)),
      fun S hS => aB rfl (aM rfl rfl (aA rfl) rfl (aA rfl) (aF hS rfl) c37),
      fun S hS => aB rfl (aM rfl rfl (aA rfl) rfl (aA rfl) (aF hS rfl) c37),
      fun S hS => aB rfl (aM rfl rfl (aA rfl) rfl (aA rfl) (aF hS rfl) c37),
      fun S hS => aB rfl (aL rfl (bR (v := .d (.lit (.bool true))) (aA rfl) (aC hS rfl) c37 rfl rfl)),
      fun S hS => aB rfl (aL rfl (aD (v := .d (.lit (.bool (true)))) (aA rfl) (aC hS rfl) rfl)),
      fun S hS => aB rfl (aM rfl rfl (aA rfl) rfl (aA rfl) (aF hS rfl) c40),
      fun S hS => aB rfl (aM rfl rfl (aA rfl) rfl (aA rfl) (aF hS rfl) c40),
      fun S hS => aB rfl (aM rfl rfl (aA rfl) rfl (aA rfl) (aF hS rfl) c40),
      fun S hS => aB rfl (aM rfl rfl (aA rfl) rfl (aA rfl) (aF hS rfl) c40),
      fun S hS => aB rfl (aM rfl rfl (aA rfl) rfl (aA rfl) (aF hS rfl) c40),
      fun S hS => aB rfl (aL rfl (bR (v := .d (.lit (.bool true))) (aA rfl) (aC hS rfl) c40 rfl rfl)),
      fun S hS => aB rfl (aL rfl (aD (v := .d (.lit (.bool (true)))) (aA rfl) (aC hS rfl) rfl)),
      fun S hS => aB rfl (aM rfl rfl (aA rfl) rfl (aA rfl) (aF hS rfl) c43),
      fun S hS => aB rfl (aM rfl rfl (aA rfl) rfl (aA rfl) (aF hS rfl) c43),
      fun S hS => aB rfl (aM rfl rfl (aA rfl) rfl (aA rfl) (aF hS rfl) c43),
      fun S hS => aB rfl (aM rfl rfl (aA rfl) rfl (aA rfl) (aF hS rfl) c43),
      fun S hS => aB rfl (aM rfl rfl (aA rfl) rfl (aA rfl) (aF hS rfl) c43),
      fun S hS => aB rfl (aM rfl rfl (aA rfl) rfl (aA rfl) (aF hS rfl) c43),
      fun S hS => aB rfl (aM rfl rfl (aA rfl) rfl (aA rfl) (aF hS rfl) c43),
      fun S hS => aB rfl (aM rfl rfl (aA rfl) rfl (aA rfl) (aF hS rfl) c43),
      fun S hS => aB rfl (aM rfl rfl (aA rfl) rfl (aA rfl) (aF hS rfl) c43),
      fun S hS => aB rfl (aM rfl rfl (aA rfl) rfl (aA rfl) (aF hS rfl) c43),
      fun S hS => aB rfl (aM rfl rfl (aA rfl) rfl (aA rfl) (aF hS rfl) c43),
      fun S hS => aB rfl (aM rfl rfl (aA rfl) rfl (aA rfl) (aF hS rfl) c43),
      fun S hS => aB rfl (aL rfl (bR (v := .d (.lit (.bool true))) (aA rfl) (aC hS rfl) c43 rfl rfl)),
      fun S hS => aB rfl (aL rfl (aD (v := .d (.lit (.bool (true)))) (aA rfl) (aC hS rfl) rfl)),
      fun S hS => aB rfl (aM rfl rfl (aA rfl) rfl (aA rfl) (aF hS rfl) c50),
      fun S hS => aB rfl (aM rfl rfl (aA rfl) rfl (aA rfl) (aF hS rfl) c50),
      fun S hS => aB rfl (aM rfl rfl (aA rfl) rfl (aA rfl) (aF hS rfl) c50),
      fun S hS => aB rfl (aM rfl rfl (aA rfl) rfl (aA rfl) (aF hS rfl) c50),
      fun S hS => aB rfl (aM rfl rfl (aA rfl) rfl (aA rfl) (aF hS rfl) c50),
      fun S hS => aB rfl (aM rfl rfl (aA rfl) rfl (aA rfl) (aF hS rfl) c50),
      fun S hS => aB rfl (aM rfl rfl (aA rfl) rfl (aA rfl) (aF hS rfl) c50),
      fun S hS => aB rfl (aM rfl rfl (aA rfl) rfl (aA rfl) (aF hS rfl) c50),
      fun S hS => aB rfl (aM rfl rfl (aA rfl) rfl (aA rfl) (aF hS rfl) c50),
      fun S hS => aB rfl (aM rfl rfl (aA rfl) rfl (aA rfl) (aF hS rfl) c50),
      fun S hS => aB rfl (aM rfl rfl (aA rfl) rfl (aA rfl) (aF hS rfl) c50),
      fun S hS => aB rfl (aM rfl rfl (aA rfl) rfl (aA rfl) (aF hS rfl) c50),
      fun S hS => aB rfl (aL rfl (bR (v := .d (.lit (.bool true))) (aA rfl) (aC hS rfl) c50 rfl rfl)),
      fun S hS => aB rfl (aL rfl (aD (v := .d (.lit (.bool (true)))) (aA rfl) (aC hS rfl) rfl)),
      fun S hS => aB rfl (aM rfl rfl (aA rfl) rfl (aA rfl) (aF hS rfl) c57),
      fun S hS => aB rfl (aM rfl rfl (aA rfl) rfl (aA rfl) (aF hS rfl) c57),
      fun S hS => aB rfl (aM rfl rfl (aA rfl) rfl (aA rfl) (aF hS rfl) c57),
      fun S hS => aB rfl (aM rfl rfl (aA rfl) rfl (aA rfl) (aF hS rfl) c57),
      fun S hS => aB rfl (aM rfl rfl (aA rfl) rfl (aA rfl) (aF hS rfl) c57),
      fun S hS => aB rfl (aM rfl rfl (aA rfl) rfl (aA rfl) (aF hS rfl) c57),
      fun S hS => aB rfl (aL rfl (bR (v := .d (.lit (.bool true))) (aA rfl) (aC hS rfl) c57 rfl rfl)),
      fun S hS => aB rfl (aL rfl (aD (v := .d (.lit (.bool (true)))) (aA rfl) (aC hS rfl) rfl)),
      fun S hS => aB rfl (aM rfl rfl (aA rfl) rfl (aA rfl) (aF hS rfl) c62),
      fun S hS => aB rfl (aM rfl rfl (aA rfl) rfl (aA rfl) (aF hS rfl) c62),
      fun S hS => aB rfl (aM rfl rfl (aA rfl) rfl (aA rfl) (aF hS rfl) c62),
      fun S hS => aB rfl (aM rfl rfl (aA rfl) rfl (aA rfl) (aF hS rfl) c62),
      fun S hS => aB rfl (aM rfl rfl (aA rfl) rfl (aA rfl) (aF hS rfl) c62),
      fun S hS => aB rfl (aM rfl rfl (aA rfl) rfl (aA rfl) (aF hS rfl) c62),
      fun S hS => aB rfl (aM rfl rfl (aA rfl) rfl (aA rfl) (aF hS rfl) c62),
      fun S hS => aB rfl (aL rfl (bR (v := .d (.lit (.bool true))) (aA rfl) (aC hS rfl) c62 rfl rfl)),
      fun S hS => aB rfl (aL rfl (aD (v := .d (.lit (.bool (true)))) (aA rfl) (aC hS rfl) rfl)),
      fun S hS => aB rfl (aM rfl rfl (aA rfl) rfl (aA rfl) (aF hS rfl) c67),
      fun S hS => aB rfl (aM rfl rfl (aA rfl) rfl (aA rfl) (aF hS rfl) c67),
      fun S hS => aB rfl (aM rfl rfl (aA rfl) rfl (aA rfl) (aF hS rfl) c67),
      fun S hS => aB rfl (aM rfl rfl (aA rfl) rfl (aA rfl) (aF hS rfl) c67),
      fun S hS => aB rfl (aM rfl rfl (aA rfl) rfl (aA rfl) (aF hS rfl) c67),
      fun S hS => aB rfl (aM rfl rfl (aA rfl) rfl (aA rfl) (aF hS rfl) c67),
      fun S hS => aB rfl (aM rfl rfl (aA rfl) rfl (aA rfl) (aF hS rfl) c67),
      fun S hS => aB rfl (aL rfl (bR (v := .d (.lit (.bool true))) (aA rfl) (aC hS rfl) c67 rfl rfl)), trivial⟩⟩
            · exact dB (aZ rfl (bC ⟨rfl, rfl, rfl, rfl, rfl, rfl, rfl, trivial⟩))
           ·have h36 := bD c37 h36
            have h36 := Option.some.inj h36
            subst h36
            refine cA (decide (x30.Round < 0)) (fun c40 => ?_) (fun c40 => ?_)
            ·have h39 := bB c40 h39
             have h39 := Option.some.inj h39
             subst h39
             have c43 : true = true := rfl
             have h42 := bB c43 h42
             have h42 := Option.some.inj h42
             subst h42
             have c50 : true = true := rfl
             have h49 := bB c50 h49
             have h49 := Option.some.inj h49
             subst h49
             have c57 : true = true := rfl
             have h56 := bB c57 h56
             have h56 := Option.some.inj h56
             subst h56
             have c62 : true = true := rfl
             have h61 := bB c62 h61
             have h61 := Option.some.inj h61
             subst h61
             have c67 : true = true := rfl
             have h66 := bB c67 h66
             have h66 := Option.some.inj h66
             subst h66
             refine ⟨[(99, 0, .d (.lit (.int .i64 r33.2))), (100, 1, .d (.lit (.bool ((!decide (r33.2 = 3)))))), (101, 2, .d (.lit (.bool ((!decide (r33.2 = 3)))))), (102, 3, .bp b32 0 0), (103, 4, .d (.lit (.int .i64 x30.Round))), (104, 5, .d (.lit (.bool ((decide (x30.Round < 0)))))), (105, 6, .d (.lit (.bool ((decide (x30.Round < 0)))))), (106, 7, .d (.lit (.bool (decide (x30.Round < 0))))), (107, 8, .tup []), (108, 9, .tup []), (109, 10, .tup []), (110, 11, .tup []), (111, 12, .tup []), (112, 13, .d (.lit (.bool true))), (113, 14, .d (.lit (.bool (true)))), (114, 15, .tup []), (115, 16, .tup []), (116, 17, .tup []), (117, 18, .tup []), (118, 19, .tup []), (119, 20, .tup []), (120, 21, .tup []), (121, 22, .tup []), (122, 23, .tup []), (123, 24, .tup []), (124, 25, .tup []), (125, 26, .tup []), (126, 27, .d (.lit (.bool true))), (127, 28, .d (.lit (.bool (true)))), (128, 29, .tup []), (129, 30, .tup []), (130, 31, .tup []), (131, 32, .tup []), (132, 33, .tup []), (133, 34, .tup []), (134, 35, .tup []), (135, 36, .tup []), (136, 37, .tup []), (137, 38, .tup []), (138, 39, .tup []), (139, 40, .tup []), (140, 41, .d (.lit (.bool true))), (141, 42, .d (.lit (.bool (true)))), (142, 43, .tup []), (143, 44, .tup []), (144, 45, .tup []), (145, 46, .tup []), (146, 47, .tup []), (147, 48, .tup []), (148, 49, .d (.lit (.bool true))), (149, 50, .d (.lit (.bool (true)))), (150, 51, .tup []), (151, 52, .tup []), (152, 53, .tup []), (153, 54, .tup []), (154, 55, .tup []), (155, 56, .tup []), (156, 57, .tup []), (157, 58, .d (.lit (.bool true))), (158, 59, .d (.lit (.bool (true)))), (159, 60, .tup []), (160, 61, .tup []), (161, 62, .tup []), (162, 63, .tup []), (163, 64, .tup []), (164, 65, .tup []), (165, 66, .tup []), (166, 67, .d (.lit (.bool true)))], ?_, ?_⟩
             · exact ⟨by kernel_rfl, by kernel_rfl, by kernel_rfl, by kernel_rfl, by kernel_rfl, [([], []), ([0], []), ([1], []), ([2], []), ([2, 3], []), ([2, 4], []), ([2, 5], []), ([6], []), ([7], []), ([7, 8], []), ([7], []), ([7, 10], []), ([7, 9, 11], []), ([7, 12], []), ([13], []), ([14], []), ([14], []), ([14, 15, 16], []), ([14, 17], []), ([14, 18], []), ([14], []), ([14], []), ([14, 21], []), ([14, 20, 22], []), ([14, 23], []), ([14, 24], []), ([14, 19, 25], []), ([14, 26], []), ([27], []), ([28], []), ([28], []), ([28, 29, 30], []), ([28, 31], []), ([28, 32], []), ([28], []), ([28], []), ([28, 35], []), ([28, 34, 36], []), ([28, 37], []), ([28, 38], []), ([28, 33, 39], []), ([28, 40], []), ([41], []), ([42], []), ([42], []), ([42, 43, 44], []), ([42, 45], []), ([42, 46], []), ([42, 47], []), ([42, 48], []), ([49], []), ([50], []), ([50], []), ([50, 51, 52], []), ([50, 53], []), ([50, 54], []), ([50, 55], []), ([50, 56], []), ([50, 57], []), ([58], []), ([59], []), ([59], []), ([59, 60, 61], []), ([59, 62], []), ([59, 63], []), ([59, 64], []), ([59, 65], []), ([59, 66], [])], by kernel_rfl, ⟨fun S hS => aB rfl (aL rfl (aD (v := .d (.lit (.int .i64 r33.2))) (aA rfl) (aC hS rfl) rfl)),
      fun S hS => aB rfl (aL rfl (bP (aA rfl) (aC hS rfl) rfl rfl)),
      fun S hS => aB rfl (aL rfl (aD (v := .d (.lit (.bool ((!decide (r33.2 = 3)))))) (aA rfl) (aC hS rfl) rfl)),
      fun S hS => aB rfl (aO rfl rfl (aA rfl) (aF hS rfl) c37 (aN (aA rfl) (aC hS rfl) dW)),
      fun S hS => aB rfl (aO rfl rfl (aA rfl) (aF hS rfl) c37 (aQ (aA rfl) (aC hS rfl) (i := 1) rfl rfl bL)),
      fun S hS => aB rfl (aO rfl rfl (aA rfl) (aF hS rfl) c37 (bP (aA rfl) (aC hS rfl) rfl rfl)),
      fun S hS => aB rfl (aL rfl (bQ (v := .d (.lit (.bool ((decide (x30.Round < 0)))))) (aA rfl) (aC hS rfl) c37 (aC hS rfl) rfl)),
      fun S hS => aB rfl (aL rfl (aD (v := .d (.lit (.bool (decide (x30.Round < 0))))) (aA rfl) (aC hS rfl) rfl)),
      fun S hS => aB rfl (aM rfl rfl (aA rfl) rfl (aA rfl) (aF hS rfl) c40),
      fun S hS => aB rfl (aM rfl rfl (aA rfl) rfl (aA rfl) (aF hS rfl) c40),
      fun S hS => aB rfl (aM rfl rfl (aA rfl) rfl (aA rfl) (aF hS rfl) c40),
      fun S hS => aB rfl (aM rfl rfl (aA rfl) rfl (aA rfl) (aF hS rfl) c40),
      fun S hS => aB rfl (aM rfl rfl (aA rfl) rfl (aA rfl) (aF hS rfl) c40),
      fun S hS => aB rfl (aL rfl (bR (v := .d (.lit (.bool true))) (aA rfl) (aC hS rfl) c40 rfl rfl)),
      fun S hS => aB rfl (aL rfl (aD (v := .d (.lit (.bool (true)))) (aA rfl) (aC hS rfl) rfl)),
      fun S hS => aB rfl (aM rfl rfl (aA rfl) rfl (aA rfl) (aF hS rfl) c43),
      fun S hS => aB rfl (aM rfl rfl (aA rfl) rfl (aA rfl) (aF hS rfl) c43),
      fun S hS => aB rfl (aM rfl rfl (aA rfl) rfl (aA rfl) (aF hS rfl) c43),
      fun S hS => aB rfl (aM rfl rfl (aA rfl) rfl (aA rfl) (aF hS rfl) c43),
      fun S hS => aB rfl (aM rfl rfl (aA rfl) rfl (aA rfl) (aF hS rfl) c43),
      fun S hS => aB rfl (aM rfl rfl (aA rfl) rfl (aA rfl) (aF hS rfl) c43),
      fun S hS => aB rfl (aM rfl rfl (aA rfl) rfl (aA rfl) (aF hS rfl) c43),
      fun S hS => aB rfl (aM rfl rfl (aA rfl) rfl (aA rfl) (aF hS rfl) c43),
      fun S hS => aB rfl (aM rfl rfl (aA rfl) rfl (aA rfl) (aF hS rfl) c43),
      fun S hS => aB rfl (aM rfl rfl (aA rfl) rfl (aA rfl) (aF hS rfl) c43),
      fun S hS => aB rfl (aM rfl rfl (aA rfl) rfl (aA rfl) (aF hS rfl) c43),
      fun S hS => aB rfl (aM rfl rfl (aA rfl) rfl (aA rfl) (aF hS rfl) c43),
      fun S hS => aB rfl (aL rfl (bR (v := .d (.lit (.bool true))) (aA rfl) (aC hS rfl) c43 rfl rfl)),
      fun S hS => aB rfl (aL rfl (aD (v := .d (.lit (.bool (true)))) (aA rfl) (aC hS rfl) rfl)),
      fun S hS => aB rfl (aM rfl rfl (aA rfl) rfl (aA rfl) (aF hS rfl) c50),
      fun S hS => aB rfl (aM rfl rfl (aA rfl) rfl (aA rfl) (aF hS rfl) c50),
      fun S hS => aB rfl (aM rfl rfl (aA rfl) rfl (aA rfl) (aF hS rfl) c50),
      fun S hS => aB rfl (aM rfl rfl (aA rfl) rfl (aA rfl) (aF hS rfl) c50),
      fun S hS => aB rfl (aM rfl rfl (aA rfl) rfl (aA rfl) (aF hS rfl) c50),
      fun S hS => aB rfl (aM rfl rfl (aA rfl) rfl (aA rfl) (aF hS rfl) c50),
      fun S hS => aB rfl (aM rfl rfl (aA rfl) rfl (aA rfl) (aF hS rfl) c50),
      fun S hS => aB rfl (aM rfl rfl (aA rfl) rfl (aA rfl) (aF hS rfl) c50),
      fun S hS => aB rfl (aM rfl rfl (aA rfl) rfl (aA rfl) (aF hS rfl) c50),
      fun S hS => aB rfl (aM rfl rfl (aA rfl) rfl (aA rfl) (aF hS rfl) c50),
      fun S hS => aB rfl (aM rfl rfl (aA rfl) rfl (aA rfl) (aF hS rfl) c50),
      fun S hS => aB rfl (aM rfl rfl (aA rfl) rfl (aA rfl) (aF hS rfl) c50),
      fun S hS => aB rfl (aL rfl (bR (v := .d (.lit (.bool true))) (aA rfl) (aC hS rfl) c50 rfl rfl)),
      fun S hS => aB rfl (aL rfl (aD (v := .d (.lit (.bool (true)))) (aA rfl) (aC hS rfl) rfl)),
      fun S hS => aB rfl (aM rfl rfl (aA rfl) rfl (aA rfl) (aF hS rfl) c57),
      fun S hS => aB rfl (aM rfl rfl (aA rfl) rfl (aA rfl) (aF hS rfl) c57),
      fun S hS => aB rfl (aM rfl rfl (aA rfl) rfl (aA rfl) (aF hS rfl) c57),
      fun S hS => aB rfl (aM rfl rfl (aA rfl) rfl (aA rfl) (aF hS rfl) c57),
      fun S hS => aB rfl (aM rfl rfl (aA rfl) rfl (aA rfl) (aF hS rfl) c57),
      fun S hS => aB rfl (aM rfl rfl (aA rfl) rfl (aA rfl) (aF hS rfl) c57),
      fun S hS => aB rfl (aL rfl (bR (v := .d (.lit (.bool true))) (aA rfl) (aC hS rfl) c57 rfl rfl)),
      fun S hS => aB rfl (aL rfl (aD (v := .d (.lit (.bool (true)))) (aA rfl) (aC hS rfl) rfl)),
      fun S hS => aB rfl (aM rfl rfl (aA rfl) rfl (aA rfl) (aF hS rfl) c62),
      fun S hS => aB rfl (aM rfl rfl (aA rfl) rfl (aA rfl) (aF hS rfl) c62),
      fun S hS => aB rfl (aM rfl rfl (aA rfl) rfl (aA rfl) (aF hS rfl) c62),
      fun S hS => aB rfl (aM rfl rfl (aA rfl) rfl (aA rfl) (aF hS rfl) c62),
      fun S hS => aB rfl (aM rfl rfl (aA rfl) rfl (aA rfl) (aF hS rfl) c62),
      fun S hS => aB rfl (aM rfl rfl (aA rfl) rfl (aA rfl) (aF hS rfl) c62),
      fun S hS => aB rfl (aM rfl rfl (aA rfl) rfl (aA rfl) (aF hS rfl) c62),
      fun S hS => aB rfl (aL rfl (bR (v := .d (.lit (.bool true))) (aA rfl) (aC hS rfl) c62 rfl rfl)),
      fun S hS => aB rfl (aL rfl (aD (v := .d (.lit (.bool (true)))) (aA rfl) (aC hS rfl) rfl)),
      fun S hS => aB rfl (aM rfl rfl (aA rfl) rfl (aA rfl) (aF hS rfl) c67),
      fun S hS => aB rfl (aM rfl rfl (aA rfl) rfl (aA rfl) (aF hS rfl) c67),
      fun S hS => aB rfl (aM rfl rfl (aA rfl) rfl (aA rfl) (aF hS rfl) c67),
      fun S hS => aB rfl (aM rfl rfl (aA rfl) rfl (aA rfl) (aF hS rfl) c67),
      fun S hS => aB rfl (aM rfl rfl (aA rfl) rfl (aA rfl) (aF hS rfl) c67),
      fun S hS => aB rfl (aM rfl rfl (aA rfl) rfl (aA rfl) (aF hS rfl) c67),
      fun S hS => aB rfl (aM rfl rfl (aA rfl) rfl (aA rfl) (aF hS rfl) c67),
      fun S hS => aB rfl (aL rfl (bR (v := .d (.lit (.bool true))) (aA rfl) (aC hS rfl) c67 rfl rfl)), trivial⟩⟩
             · exact dB (aZ rfl (bC ⟨rfl, rfl, rfl, rfl, rfl, rfl, rfl, trivial⟩))
            ·have h39 := bD c40 h39
             have h39 := Option.some.inj h39
             subst h39
             refine cA (decide (t_0.Rounds ≤ x30.Round)) (fun c43 => ?_) (fun c43 => ?_)
             ·have h42 := bB c43 h42
              have h42 := Option.some.inj h42
              subst h42
              have c50 : true = true := rfl
              have h49 := bB c50 h49
              have h49 := Option.some.inj h49
              subst h49
              have c57 : true = true := rfl
              have h56 := bB c57 h56
              have h56 := Option.some.inj h56
              subst h56
              have c62 : true = true := rfl
              have h61 := bB c62 h61
              have h61 := Option.some.inj h61
              subst h61
              have c67 : true = true := rfl
              have h66 := bB c67 h66
              have h66 := Option.some.inj h66
              subst h66
              refine ⟨[(99, 0, .d (.lit (.int .i64 r33.2))), (100, 1, .d (.lit (.bool ((!decide (r33.2 = 3)))))), (101, 2, .d (.lit (.bool ((!decide (r33.2 = 3)))))), (102, 3, .bp b32 0 0), (103, 4, .d (.lit (.int .i64 x30.Round))), (104, 5, .d (.lit (.bool ((decide (x30.Round < 0)))))), (105, 6, .d (.lit (.bool ((decide (x30.Round < 0)))))), (106, 7, .d (.lit (.bool (decide (x30.Round < 0))))), (107, 8, .bp b32 0 0), (108, 9, .d (.lit (.int .i64 x30.Round))), (109, 10, .bp b1 0 0), (110, 11, .d (.lit (.int .i64 t_0.Rounds))), (111, 12, .d (.lit (.bool ((decide (t_0.Rounds ≤ x30.Round)))))), (112, 13, .d (.lit (.bool ((decide (t_0.Rounds ≤ x30.Round)))))), (113, 14, .d (.lit (.bool (decide (t_0.Rounds ≤ x30.Round))))), (114, 15, .tup []), (115, 16, .tup []), (116, 17, .tup []), (117, 18, .tup []), (118, 19, .tup []), (119, 20, .tup []), (120, 21, .tup []), (121, 22, .tup []), (122, 23, .tup []), (123, 24, .tup []), (124, 25, .tup []), (125, 26, .tup []), (126, 27, .d (.lit (.bool true))), (127, 28, .d (.lit (.bool (true)))), (128, 29, .tup []), (129, 30, .tup []), (130, 31, .tup []), (131, 32, .tup []), (132, 33, .tup []), (133, 34, .tup []), (134, 35, .tup []), (135, 36, .tup []), (136, 37, .tup []), (137, 38, .tup []), (138, 39, .tup []), (139, 40, .tup []), (140, 41, .d (.lit (.bool true))), (141, 42, .d (.lit (.bool (true)))), (142, 43, .tup []), (143, 44, .tup []), (144, 45, .tup []), (145, 46, .tup []), (146, 47, .tup []), (147, 48, .tup []), (148, 49, .d (.lit (.bool true))), (149, 50, .d (.lit (.bool (true)))), (150, 51, .tup []), (151, 52, .tup []), (152, 53, .tup []), (153, 54, .tup []), (154, 55, .tup []), (155, 56, .tup []), (156, 57, .tup []), (157, 58, .d (.lit (.bool true))), (158, 59, .d (.lit (.bool (true)))), (159, 60, .tup []), (160, 61, .tup []), (161, 62, .tup []), (162, 63, .tup []), (163, 64, .tup []), (164, 65, .tup []), (165, 66, .tup []), (166, 67, .d (.lit (.bool true)))], ?_, ?_⟩
              · exact ⟨by kernel_rfl, by kernel_rfl, by kernel_rfl, by kernel_rfl, by kernel_rfl, [([], []), ([0], []), ([1], []), ([2], []), ([2, 3], []), ([2, 4], []), ([2, 5], []), ([6], []), ([7], []), ([7, 8], []), ([7], []), ([7, 10], []), ([7, 9, 11], []), ([7, 12], []), ([13], []), ([14], []), ([14], []), ([14, 15, 16], []), ([14, 17], []), ([14, 18], []), ([14], []), ([14], []), ([14, 21], []), ([14, 20, 22], []), ([14, 23], []), ([14, 24], []), ([14, 19, 25], []), ([14, 26], []), ([27], []), ([28], []), ([28], []), ([28, 29, 30], []), ([28, 31], []), ([28, 32], []), ([28], []), ([28], []), ([28, 35], []), ([28, 34, 36], []), ([28, 37], []), ([28, 38], []), ([28, 33, 39], []), ([28, 40], []), ([41], []), ([42], []), ([42], []), ([42, 43, 44], []), ([42, 45], []), ([42, 46], []), ([42, 47], []), ([42, 48], []), ([49], []), ([50], []), ([50], []), ([50, 51, 52], []), ([50, 53], []), ([50, 54], []), ([50, 55], []), ([50, 56], []), ([50, 57], []), ([58], []), ([59], []), ([59], []), ([59, 60, 61], []), ([59, 62], []), ([59, 63], []), ([59, 64], []), ([59, 65], []), ([59, 66], [])], by kernel_rfl, ⟨fun S hS => aB rfl (aL rfl (aD (v := .d (.lit (.int .i64 r33.2))) (aA rfl) (aC hS rfl) rfl)),
      fun S hS => aB rfl (aL rfl (bP (aA rfl) (aC hS rfl) rfl rfl)),
      fun S hS => aB rfl (aL rfl (aD (v := .d (.lit (.bool ((!decide (r33.2 = 3)))))) (aA rfl) (aC hS rfl) rfl)),
      fun S hS => aB rfl (aO rfl rfl (aA rfl) (aF hS rfl) c37 (aN (aA rfl) (aC hS rfl) dW)),
      fun S hS => aB rfl (aO rfl rfl (aA rfl) (aF hS rfl) c37 (aQ (aA rfl) (aC hS rfl) (i := 1) rfl rfl bL)),
      fun S hS => aB rfl (aO rfl rfl (aA rfl) (aF hS rfl) c37 (bP (aA rfl) (aC hS rfl) rfl rfl)),
      fun S hS => aB rfl (aL rfl (bQ (v := .d (.lit (.bool ((decide (x30.Round < 0)))))) (aA rfl) (aC hS rfl) c37 (aC hS rfl) rfl)),
      fun S hS => aB rfl (aL rfl (aD (v := .d (.lit (.bool (decide (x30.Round < 0))))) (aA rfl) (aC hS rfl) rfl)),
      fun S hS => aB rfl (aO rfl rfl (aA rfl) (aF hS rfl) c40 (aN (aA rfl) (aC hS rfl) dW)),
      fun S hS => aB rfl (aO rfl rfl (aA rfl) (aF hS rfl) c40 (aQ (aA rfl) (aC hS rfl) (i := 1) rfl rfl bL)),
      fun S hS => aB rfl (aO rfl rfl (aA rfl) (aF hS rfl) c40 (aN (aA rfl) (aC hS rfl) jG)),
      fun S hS => aB rfl (aO rfl rfl (aA rfl) (aF hS rfl) c40 (aQ (aA rfl) (aC hS rfl) (i := 0) rfl rfl bL)),
      fun S hS => aB rfl (aO rfl rfl (aA rfl) (aF hS rfl) c40 (bP (aA rfl) (aC hS rfl) (aC hS rfl) rfl)),
      fun S hS => aB rfl (aL rfl (bQ (v := .d (.lit (.bool ((decide (t_0.Rounds ≤ x30.Round)))))) (aA rfl) (aC hS rfl) c40 (aC hS rfl) rfl)),
      fun S hS => aB rfl (aL rfl (aD (v := .d (.lit (.bool (decide (t_0.Rounds ≤ x30.Round))))) (aA rfl) (aC hS rfl) rfl)),
      fun S hS => aB rfl (aM rfl rfl (aA rfl) rfl (aA rfl) (aF hS rfl) c43),
      fun S hS => aB rfl (aM rfl rfl (aA rfl) rfl (aA rfl) (aF hS rfl) c43),
      fun S hS => aB rfl (aM rfl rfl (aA rfl) rfl (aA rfl) (aF hS rfl) c43),
      fun S hS => aB rfl (aM rfl rfl (aA rfl) rfl (aA rfl) (aF hS rfl) c43),
      fun S hS => aB rfl (aM rfl rfl (aA rfl) rfl (aA rfl) (aF hS rfl) c43),
      fun S hS => aB rfl (aM rfl rfl (aA rfl) rfl (aA rfl) (aF hS rfl) c43),
      fun S hS => aB rfl (aM rfl rfl (aA rfl) rfl (aA rfl) (aF hS rfl) c43),
      fun S hS => aB rfl (aM rfl rfl (aA rfl) rfl (aA rfl) (aF hS rfl) c43),
      fun S hS => aB rfl (aM rfl rfl (aA rfl) rfl (aA rfl) (aF hS rfl) c43),
      fun S hS => aB rfl (aM rfl rfl (aA rfl) rfl (aA rfl) (aF hS rfl) c43),
      fun S hS => aB rfl (aM rfl rfl (aA rfl) rfl (aA rfl) (aF hS rfl) c43),
      fun S hS => aB rfl (aM rfl rfl (aA rfl) rfl (aA rfl) (aF hS rfl) c43),
      fun S hS => aB rfl (aL rfl (bR (v := .d (.lit (.bool true))) (aA rfl) (aC hS rfl) c43 rfl rfl)),
      fun S hS => aB rfl (aL rfl (aD (v := .d (.lit (.bool (true)))) (aA rfl) (aC hS rfl) rfl)),
      fun S hS => aB rfl (aM rfl rfl (aA rfl) rfl (aA rfl) (aF hS rfl) c50),
      fun S hS => aB rfl (aM rfl rfl (aA rfl) rfl (aA rfl) (aF hS rfl) c50),
      fun S hS => aB rfl (aM rfl rfl (aA rfl) rfl (aA rfl) (aF hS rfl) c50),
      fun S hS => aB rfl (aM rfl rfl (aA rfl) rfl (aA rfl) (aF hS rfl) c50),
      fun S hS => aB rfl (aM rfl rfl (aA rfl) rfl (aA rfl) (aF hS rfl) c50),
      fun S hS => aB rfl (aM rfl rfl (aA rfl) rfl (aA rfl) (aF hS rfl) c50),
      fun S hS => aB rfl (aM rfl rfl (aA rfl) rfl (aA rfl) (aF hS rfl) c50),
      fun S hS => aB rfl (aM rfl rfl (aA rfl) rfl (aA rfl) (aF hS rfl) c50),
      fun S hS => aB rfl (aM rfl rfl (aA rfl) rfl (aA rfl) (aF hS rfl) c50),
      fun S hS => aB rfl (aM rfl rfl (aA rfl) rfl (aA rfl) (aF hS rfl) c50),
      fun S hS => aB rfl (aM rfl rfl (aA rfl) rfl (aA rfl) (aF hS rfl) c50),
      fun S hS => aB rfl (aM rfl rfl (aA rfl) rfl (aA rfl) (aF hS rfl) c50),
      fun S hS => aB rfl (aL rfl (bR (v := .d (.lit (.bool true))) (aA rfl) (aC hS rfl) c50 rfl rfl)),
      fun S hS => aB rfl (aL rfl (aD (v := .d (.lit (.bool (true)))) (aA rfl) (aC hS rfl) rfl)),
      fun S hS => aB rfl (aM rfl rfl (aA rfl) rfl (aA rfl) (aF hS rfl) c57),
      fun S hS => aB rfl (aM rfl rfl (aA rfl) rfl (aA rfl) (aF hS rfl) c57),
      fun S hS => aB rfl (aM rfl rfl (aA rfl) rfl (aA rfl) (aF hS rfl) c57),
      fun S hS => aB rfl (aM rfl rfl (aA rfl) rfl (aA rfl) (aF hS rfl) c57),
      fun S hS => aB rfl (aM rfl rfl (aA rfl) rfl (aA rfl) (aF hS rfl) c57),
      fun S hS => aB rfl (aM rfl rfl (aA rfl) rfl (aA rfl) (aF hS rfl) c57),
      fun S hS => aB rfl (aL rfl (bR (v := .d (.lit (.bool true))) (aA rfl) (aC hS rfl) c57 rfl rfl)),
      fun S hS => aB rfl (aL rfl (aD (v := .d (.lit (.bool (true)))) (aA rfl) (aC hS rfl) rfl)),
      fun S hS => aB rfl (aM rfl rfl (aA rfl) rfl (aA rfl) (aF hS rfl) c62),
      fun S hS => aB rfl (aM rfl rfl (aA rfl) rfl (aA rfl) (aF hS rfl) c62),
      fun S hS => aB rfl (aM rfl rfl (aA rfl) rfl (aA rfl) (aF hS rfl) c62),
      fun S hS => aB rfl (aM rfl rfl (aA rfl) rfl (aA rfl) (aF hS rfl) c62),
      fun S hS => aB rfl (aM rfl rfl (aA rfl) rfl (aA rfl) (aF hS rfl) c62),
      fun S hS => aB rfl (aM rfl rfl (aA rfl) rfl (aA rfl) (aF hS rfl) c62),
      fun S hS => aB rfl (aM rfl rfl (aA rfl) rfl (aA rfl) (aF hS rfl) c62),
      fun S hS => aB rfl (aL rfl (bR (v := .d (.lit (.bool true))) (aA rfl) (aC hS rfl) c62 rfl rfl)),
      fun S hS => aB rfl (aL rfl (aD (v := .d (.lit (.bool (true)))) (aA rfl) (aC hS rfl) rfl)),
      fun S hS => aB rfl (aM rfl rfl (aA rfl) rfl (aA rfl) (aF hS rfl) c67),
      fun S hS => aB rfl (aM rfl rfl (aA rfl) rfl (aA rfl) (aF hS rfl) c67),
      fun S hS => aB rfl (aM rfl rfl (aA rfl) rfl (aA rfl) (aF hS rfl) c67),
      fun S hS => aB rfl (aM rfl rfl (aA rfl) rfl (aA rfl) (aF hS rfl) c67),
      fun S hS => aB rfl (aM rfl rfl (aA rfl) rfl (aA rfl) (aF hS rfl) c67),
      fun S hS => aB rfl (aM rfl rfl (aA rfl) rfl (aA rfl) (aF hS rfl) c67),
      fun S hS => aB rfl (aM rfl rfl (aA rfl) rfl (aA rfl) (aF hS rfl) c67),
      fun S hS => aB rfl (aL rfl (bR (v := .d (.lit (.bool true))) (aA rfl) (aC hS rfl) c67 rfl rfl)), trivial⟩⟩
              · exact dB (aZ rfl (bC ⟨rfl, rfl, rfl, rfl, rfl, rfl, rfl, trivial⟩))
             ·have h42 := bD c43 h42
              obtain ⟨x44, h45, h42⟩ := bind_some h42
              obtain ⟨x46, h47, h42⟩ := bind_some h42
              have h42 := Option.some.inj h42
              subst h42
              refine cA (!decide (x44.Length = x46.Length)) (fun c50 => ?_) (fun c50 => ?_)
              ·have h49 := bB c50 h49
               have h49 := Option.some.inj h49
               subst h49
               have c57 : true = true := rfl
               have h56 := bB c57 h56
               have h56 := Option.some.inj h56
               subst h56
               have c62 : true = true := rfl
               have h61 := bB c62 h61
               have h61 := Option.some.inj h61
               subst h61
               have c67 : true = true := rfl
               have h66 := bB c67 h66
               have h66 := Option.some.inj h66
               subst h66
               refine ⟨[(99, 0, .d (.lit (.int .i64 r33.2))), (100, 1, .d (.lit (.bool ((!decide (r33.2 = 3)))))), (101, 2, .d (.lit (.bool ((!decide (r33.2 = 3)))))), (102, 3, .bp b32 0 0), (103, 4, .d (.lit (.int .i64 x30.Round))), (104, 5, .d (.lit (.bool ((decide (x30.Round < 0)))))), (105, 6, .d (.lit (.bool ((decide (x30.Round < 0)))))), (106, 7, .d (.lit (.bool (decide (x30.Round < 0))))), (107, 8, .bp b32 0 0), (108, 9, .d (.lit (.int .i64 x30.Round))), (109, 10, .bp b1 0 0), (110, 11, .d (.lit (.int .i64 t_0.Rounds))), (111, 12, .d (.lit (.bool ((decide (t_0.Rounds ≤ x30.Round)))))), (112, 13, .d (.lit (.bool ((decide (t_0.Rounds ≤ x30.Round)))))), (113, 14, .d (.lit (.bool (decide (t_0.Rounds ≤ x30.Round))))), (114, 15, .d (.sl 6 (r9.1.map aT))), (115, 16, .d (.lit (.int .i64 i_0_27))), (116, 17, .cp [.lit (.int .i64 x44.Length.Low), .lit (.int .i64 x44.Length.High), .sl 1 (x44.After.map aW), .sl 1 (x44.With.map aW), .lit (.int .i64 x44.Due), .lit (.int .i64 x44.Earliest)]), (117, 18, .cp [.lit (.int .i64 x44.Length.Low), .lit (.int .i64 x44.Length.High)]), (118, 19, .agg (bA x44.Length)), (119, 20, .d (.sl 3 (stages_2.map cD))), (120, 21, .bp b32 0 0), (121, 22, .d (.lit (.int .i64 x30.Round))), (122, 23, .cp [.lit (.int .i64 x46.Length.Low), .lit (.int .i64 x46.Length.High), .lit (.int .i64 x46.Due)]), (123, 24, .cp [.lit (.int .i64 x46.Length.Low), .lit (.int .i64 x46.Length.High)]), (124, 25, .agg (bA x46.Length)), (125, 26, .d (.lit (.bool ((!decide (x44.Length = x46.Length)))))), (126, 27, .d (.lit (.bool ((!decide (x44.Length = x46.Length)))))), (127, 28, .d (.lit (.bool (!decide (x44.Length = x46.Length))))), (128, 29, .tup []), (129, 30, .tup []), (130, 31, .tup []), (131, 32, .tup []), (132, 33, .tup []), (133, 34, .tup []), (134, 35, .tup []), (135, 36, .tup []), (136, 37, .tup []), (137, 38, .tup []), (138, 39, .tup []), (139, 40, .tup []), (140, 41, .d (.lit (.bool true))), (141, 42, .d (.lit (.bool (true)))), (142, 43, .tup []), (143, 44, .tup []), (144, 45, .tup []), (145, 46, .tup []), (146, 47, .tup []), (147, 48, .tup []), (148, 49, .d (.lit (.bool true))), (149, 50, .d (.lit (.bool (true)))), (150, 51, .tup []), (151, 52, .tup []), (152, 53, .tup []), (153, 54, .tup []), (154, 55, .tup []), (155, 56, .tup []), (156, 57, .tup []), (157, 58, .d (.lit (.bool true))), (158, 59, .d (.lit (.bool (true)))), (159, 60, .tup []), (160, 61, .tup []), (161, 62, .tup []), (162, 63, .tup []), (163, 64, .tup []), (164, 65, .tup []), (165, 66, .tup []), (166, 67, .d (.lit (.bool true)))], ?_, ?_⟩
               · exact ⟨by kernel_rfl, by kernel_rfl, by kernel_rfl, by kernel_rfl, by kernel_rfl, [([], []), ([0], []), ([1], []), ([2], []), ([2, 3], []), ([2, 4], []), ([2, 5], []), ([6], []), ([7], []), ([7, 8], []), ([7], []), ([7, 10], []), ([7, 9, 11], []), ([7, 12], []), ([13], []), ([14], []), ([14], []), ([14, 15, 16], []), ([14, 17], []), ([14, 18], []), ([14], []), ([14], []), ([14, 21], []), ([14, 20, 22], []), ([14, 23], []), ([14, 24], []), ([14, 19, 25], []), ([14, 26], []), ([27], []), ([28], []), ([28], []), ([28, 29, 30], []), ([28, 31], []), ([28, 32], []), ([28], []), ([28], []), ([28, 35], []), ([28, 34, 36], []), ([28, 37], []), ([28, 38], []), ([28, 33, 39], []), ([28, 40], []), ([41], []), ([42], []), ([42], []), ([42, 43, 44], []), ([42, 45], []), ([42, 46], []), ([42, 47], []), ([42, 48], []), ([49], []), ([50], []), ([50], []), ([50, 51, 52], []), ([50, 53], []), ([50, 54], []), ([50, 55], []), ([50, 56], []), ([50, 57], []), ([58], []), ([59], []), ([59], []), ([59, 60, 61], []), ([59, 62], []), ([59, 63], []), ([59, 64], []), ([59, 65], []), ([59, 66], [])], by kernel_rfl, ⟨fun S hS => aB rfl (aL rfl (aD (v := .d (.lit (.int .i64 r33.2))) (aA rfl) (aC hS rfl) rfl)),
      fun S hS => aB rfl (aL rfl (bP (aA rfl) (aC hS rfl) rfl rfl)),
      fun S hS => aB rfl (aL rfl (aD (v := .d (.lit (.bool ((!decide (r33.2 = 3)))))) (aA rfl) (aC hS rfl) rfl)),
      fun S hS => aB rfl (aO rfl rfl (aA rfl) (aF hS rfl) c37 (aN (aA rfl) (aC hS rfl) dW)),
      fun S hS => aB rfl (aO rfl rfl (aA rfl) (aF hS rfl) c37 (aQ (aA rfl) (aC hS rfl) (i := 1) rfl rfl bL)),
      fun S hS => aB rfl (aO rfl rfl (aA rfl) (aF hS rfl) c37 (bP (aA rfl) (aC hS rfl) rfl rfl)),
      fun S hS => aB rfl (aL rfl (bQ (v := .d (.lit (.bool ((decide (x30.Round < 0)))))) (aA rfl) (aC hS rfl) c37 (aC hS rfl) rfl)),
      fun S hS => aB rfl (aL rfl (aD (v := .d (.lit (.bool (decide (x30.Round < 0))))) (aA rfl) (aC hS rfl) rfl)),
      fun S hS => aB rfl (aO rfl rfl (aA rfl) (aF hS rfl) c40 (aN (aA rfl) (aC hS rfl) dW)),
      fun S hS => aB rfl (aO rfl rfl (aA rfl) (aF hS rfl) c40 (aQ (aA rfl) (aC hS rfl) (i := 1) rfl rfl bL)),
      fun S hS => aB rfl (aO rfl rfl (aA rfl) (aF hS rfl) c40 (aN (aA rfl) (aC hS rfl) jG)),
      fun S hS => aB rfl (aO rfl rfl (aA rfl) (aF hS rfl) c40 (aQ (aA rfl) (aC hS rfl) (i := 0) rfl rfl bL)),
      fun S hS => aB rfl (aO rfl rfl (aA rfl) (aF hS rfl) c40 (bP (aA rfl) (aC hS rfl) (aC hS rfl) rfl)),
      fun S hS => aB rfl (aL rfl (bQ (v := .d (.lit (.bool ((decide (t_0.Rounds ≤ x30.Round)))))) (aA rfl) (aC hS rfl) c40 (aC hS rfl) rfl)),
      fun S hS => aB rfl (aL rfl (aD (v := .d (.lit (.bool (decide (t_0.Rounds ≤ x30.Round))))) (aA rfl) (aC hS rfl) rfl)),
      fun S hS => aB rfl (aO rfl rfl (aA rfl) (aF hS rfl) c43 (aD (v := .d (.sl 6 (r9.1.map aT))) (aA rfl) (aC hS rfl) rfl)),
      fun S hS => aB rfl (aO rfl rfl (aA rfl) (aF hS rfl) c43 (aD (v := .d (.lit (.int .i64 i_0_27))) (aA rfl) (aC hS rfl) rfl)),
      fun S hS => aB rfl (aO rfl rfl (aA rfl) (aF hS rfl) c43 (bU (aA rfl) (aC hS rfl) (aC hS rfl) eE.of (cE aT h45))),
      fun S hS => aB rfl (aO rfl rfl (aA rfl) (aF hS rfl) c43 (cC (aA rfl) (aC hS rfl) mO (es := [.lit (.int .i64 x44.Length.Low), .lit (.int .i64 x44.Length.High)]) rfl)),
      fun S hS => aB rfl (aO rfl rfl (aA rfl) (aF hS rfl) c43 (dE (aA rfl) (aC hS rfl) gM (es := (bA x44.Length)) rfl rfl)),
      fun S hS => aB rfl (aO rfl rfl (aA rfl) (aF hS rfl) c43 (aD (v := .d (.sl 3 (stages_2.map cD))) (aA rfl) (aC hS rfl) rfl)),
      fun S hS => aB rfl (aO rfl rfl (aA rfl) (aF hS rfl) c43 (aN (aA rfl) (aC hS rfl) dW)),
      fun S hS => aB rfl (aO rfl rfl (aA rfl) (aF hS rfl) c43 (aQ (aA rfl) (aC hS rfl) (i := 1) rfl rfl bL)),
      fun S hS => aB rfl (aO rfl rfl (aA rfl) (aF hS rfl) c43 (bU (aA rfl) (aC hS rfl) (aC hS rfl) mW.of (cE cD h47))),
      fun S hS => aB rfl (aO rfl rfl (aA rfl) (aF hS rfl) c43 (cC (aA rfl) (aC hS rfl) pO (es := [.lit (.int .i64 x46.Length.Low), .lit (.int .i64 x46.Length.High)]) rfl)),
      fun S hS => aB rfl (aO rfl rfl (aA rfl) (aF hS rfl) c43 (dE (aA rfl) (aC hS rfl) gM (es := (bA x46.Length)) rfl rfl)),
      fun S hS => aB rfl (aO rfl rfl (aA rfl) (aF hS rfl) c43 (vM (a := x44.Length) (b := x46.Length) (aA rfl) (aC hS rfl) (aC hS rfl) rfl rfl Try.eqGuardType34 wC)),
      fun S hS => aB rfl (aL rfl (bQ (v := .d (.lit (.bool ((!decide (x44.Length = x46.Length)))))) (aA rfl) (aC hS rfl) c43 (aC hS rfl) rfl)),
      fun S hS => aB rfl (aL rfl (aD (v := .d (.lit (.bool (!decide (x44.Length = x46.Length))))) (aA rfl) (aC hS rfl) rfl)),
      fun S hS => aB rfl (aM rfl rfl (aA rfl) rfl (aA rfl) (aF hS rfl) c50),
      fun S hS => aB rfl (aM rfl rfl (aA rfl) rfl (aA rfl) (aF hS rfl) c50),
      fun S hS => aB rfl (aM rfl rfl (aA rfl) rfl (aA rfl) (aF hS rfl) c50),
      fun S hS => aB rfl (aM rfl rfl (aA rfl) rfl (aA rfl) (aF hS rfl) c50),
      fun S hS => aB rfl (aM rfl rfl (aA rfl) rfl (aA rfl) (aF hS rfl) c50),
      fun S hS => aB rfl (aM rfl rfl (aA rfl) rfl (aA rfl) (aF hS rfl) c50),
      fun S hS => aB rfl (aM rfl rfl (aA rfl) rfl (aA rfl) (aF hS rfl) c50),
      fun S hS => aB rfl (aM rfl rfl (aA rfl) rfl (aA rfl) (aF hS rfl) c50),
      fun S hS => aB rfl (aM rfl rfl (aA rfl) rfl (aA rfl) (aF hS rfl) c50),
      fun S hS => aB rfl (aM rfl rfl (aA rfl) rfl (aA rfl) (aF hS rfl) c50),
      fun S hS => aB rfl (aM rfl rfl (aA rfl) rfl (aA rfl) (aF hS rfl) c50),
      fun S hS => aB rfl (aM rfl rfl (aA rfl) rfl (aA rfl) (aF hS rfl) c50),
      fun S hS => aB rfl (aL rfl (bR (v := .d (.lit (.bool true))) (aA rfl) (aC hS rfl) c50 rfl rfl)),
      fun S hS => aB rfl (aL rfl (aD (v := .d (.lit (.bool (true)))) (aA rfl) (aC hS rfl) rfl)),
      fun S hS => aB rfl (aM rfl rfl (aA rfl) rfl (aA rfl) (aF hS rfl) c57),
      fun S hS => aB rfl (aM rfl rfl (aA rfl) rfl (aA rfl) (aF hS rfl) c57),
      fun S hS => aB rfl (aM rfl rfl (aA rfl) rfl (aA rfl) (aF hS rfl) c57),
      fun S hS => aB rfl (aM rfl rfl (aA rfl) rfl (aA rfl) (aF hS rfl) c57),
      fun S hS => aB rfl (aM rfl rfl (aA rfl) rfl (aA rfl) (aF hS rfl) c57),
      fun S hS => aB rfl (aM rfl rfl (aA rfl) rfl (aA rfl) (aF hS rfl) c57),
      fun S hS => aB rfl (aL rfl (bR (v := .d (.lit (.bool true))) (aA rfl) (aC hS rfl) c57 rfl rfl)),
      fun S hS => aB rfl (aL rfl (aD (v := .d (.lit (.bool (true)))) (aA rfl) (aC hS rfl) rfl)),
      fun S hS => aB rfl (aM rfl rfl (aA rfl) rfl (aA rfl) (aF hS rfl) c62),
      fun S hS => aB rfl (aM rfl rfl (aA rfl) rfl (aA rfl) (aF hS rfl) c62),
      fun S hS => aB rfl (aM rfl rfl (aA rfl) rfl (aA rfl) (aF hS rfl) c62),
      fun S hS => aB rfl (aM rfl rfl (aA rfl) rfl (aA rfl) (aF hS rfl) c62),
      fun S hS => aB rfl (aM rfl rfl (aA rfl) rfl (aA rfl) (aF hS rfl) c62),
      fun S hS => aB rfl (aM rfl rfl (aA rfl) rfl (aA rfl) (aF hS rfl) c62),
      fun S hS => aB rfl (aM rfl rfl (aA rfl) rfl (aA rfl) (aF hS rfl) c62),
      fun S hS => aB rfl (aL rfl (bR (v := .d (.lit (.bool true))) (aA rfl) (aC hS rfl) c62 rfl rfl)),
      fun S hS => aB rfl (aL rfl (aD (v := .d (.lit (.bool (true)))) (aA rfl) (aC hS rfl) rfl)),
      fun S hS => aB rfl (aM rfl rfl (aA rfl) rfl (aA rfl) (aF hS rfl) c67),
      fun S hS => aB rfl (aM rfl rfl (aA rfl) rfl (aA rfl) (aF hS rfl) c67),
      fun S hS => aB rfl (aM rfl rfl (aA rfl) rfl (aA rfl) (aF hS rfl) c67),
      fun S hS => aB rfl (aM rfl rfl (aA rfl) rfl (aA rfl) (aF hS rfl) c67),
      fun S hS => aB rfl (aM rfl rfl (aA rfl) rfl (aA rfl) (aF hS rfl) c67),
      fun S hS => aB rfl (aM rfl rfl (aA rfl) rfl (aA rfl) (aF hS rfl) c67),
      fun S hS => aB rfl (aM rfl rfl (aA rfl) rfl (aA rfl) (aF hS rfl) c67),
      fun S hS => aB rfl (aL rfl (bR (v := .d (.lit (.bool true))) (aA rfl) (aC hS rfl) c67 rfl rfl)), trivial⟩⟩
               · exact dB (aZ rfl (bC ⟨rfl, rfl, rfl, rfl, rfl, rfl, rfl, trivial⟩))
              ·have h49 := bD c50 h49
               obtain ⟨x51, h52, h49⟩ := bind_some h49
               obtain ⟨x53, h54, h49⟩ := bind_some h49
               have h49 := Option.some.inj h49
               subst h49
               refine cA (!decide (x51.Due = x53.Due)) (fun c57 => ?_) (fun c57 => ?_)
               ·have h56 := bB c57 h56
                have h56 := Option.some.inj h56
                subst h56
                have c62 : true = true := rfl
                have h61 := bB c62 h61
                have h61 := Option.some.inj h61
                subst h61
                have c67 : true = true := rfl
                have h66 := bB c67 h66
                have h66 := Option.some.inj h66
                subst h66
                refine ⟨[(99, 0, .d (.lit (.int .i64 r33.2))), (100, 1, .d (.lit (.bool ((!decide (r33.2 = 3)))))), (101, 2, .d (.lit (.bool ((!decide (r33.2 = 3)))))), (102, 3, .bp b32 0 0), (103, 4, .d (.lit (.int .i64 x30.Round))), (104, 5, .d (.lit (.bool ((decide (x30.Round < 0)))))), (105, 6, .d (.lit (.bool ((decide (x30.Round < 0)))))), (106, 7, .d (.lit (.bool (decide (x30.Round < 0))))), (107, 8, .bp b32 0 0), (108, 9, .d (.lit (.int .i64 x30.Round))), (109, 10, .bp b1 0 0), (110, 11, .d (.lit (.int .i64 t_0.Rounds))), (111, 12, .d (.lit (.bool ((decide (t_0.Rounds ≤ x30.Round)))))), (112, 13, .d (.lit (.bool ((decide (t_0.Rounds ≤ x30.Round)))))), (113, 14, .d (.lit (.bool (decide (t_0.Rounds ≤ x30.Round))))), (114, 15, .d (.sl 6 (r9.1.map aT))), (115, 16, .d (.lit (.int .i64 i_0_27))), (116, 17, .cp [.lit (.int .i64 x44.Length.Low), .lit (.int .i64 x44.Length.High), .sl 1 (x44.After.map aW), .sl 1 (x44.With.map aW), .lit (.int .i64 x44.Due), .lit (.int .i64 x44.Earliest)]), (117, 18, .cp [.lit (.int .i64 x44.Length.Low), .lit (.int .i64 x44.Length.High)]), (118, 19, .agg (bA x44.Length)), (119, 20, .d (.sl 3 (stages_2.map cD))), (120, 21, .bp b32 0 0), (121, 22, .d (.lit (.int .i64 x30.Round))), (122, 23, .cp [.lit (.int .i64 x46.Length.Low), .lit (.int .i64 x46.Length.High), .lit (.int .i64 x46.Due)]), (123, 24, .cp [.lit (.int .i64 x46.Length.Low), .lit (.int .i64 x46.Length.High)]), (124, 25, .agg (bA x46.Length)), (125, 26, .d (.lit (.bool ((!decide (x44.Length = x46.Length)))))), (126, 27, .d (.lit (.bool ((!decide (x44.Length = x46.Length)))))), (127, 28, .d (.lit (.bool (!decide (x44.Length = x46.Length))))), (128, 29, .d (.sl 6 (r9.1.map aT))), (129, 30, .d (.lit (.int .i64 i_0_27))), (130, 31, .cp [.lit (.int .i64 x51.Length.Low), .lit (.int .i64 x51.Length.High), .sl 1 (x51.After.map aW), .sl 1 (x51.With.map aW), .lit (.int .i64 x51.Due), .lit (.int .i64 x51.Earliest)]), (131, 32, .cp [.lit (.int .i64 x51.Due)]), (132, 33, .d (.lit (.int .i64 x51.Due))), (133, 34, .d (.sl 3 (stages_2.map cD))), (134, 35, .bp b32 0 0), (135, 36, .d (.lit (.int .i64 x30.Round))), (136, 37, .cp [.lit (.int .i64 x53.Length.Low), .lit (.int .i64 x53.Length.High), .lit (.int .i64 x53.Due)]), (137, 38, .cp [.lit (.int .i64 x53.Due)]), (138, 39, .d (.lit (.int .i64 x53.Due))), (139, 40, .d (.lit (.bool ((!decide (x51.Due = x53.Due)))))), (140, 41, .d (.lit (.bool ((!decide (x51.Due = x53.Due)))))), (141, 42, .d (.lit (.bool (!decide (x51.Due = x53.Due))))), (142, 43, .tup []), (143, 44, .tup []), (144, 45, .tup []), (145, 46, .tup []), (146, 47, .tup []), (147, 48, .tup []), (148, 49, .d (.lit (.bool true))), (149, 50, .d (.lit (.bool (true)))), (150, 51, .tup []), (151, 52, .tup []), (152, 53, .tup []), (153, 54, .tup []), (154, 55, .tup []), (155, 56, .tup []), (156, 57, .tup []), (157, 58, .d (.lit (.bool true))), (158, 59, .d (.lit (.bool (true)))), (159, 60, .tup []), (160, 61, .tup []), (161, 62, .tup []), (162, 63, .tup []), (163, 64, .tup []), (164, 65, .tup []), (165, 66, .tup []), (166, 67, .d (.lit (.bool true)))], ?_, ?_⟩
                · exact ⟨by kernel_rfl, by kernel_rfl, by kernel_rfl, by kernel_rfl, by kernel_rfl, [([], []), ([0], []), ([1], []), ([2], []), ([2, 3], []), ([2, 4], []), ([2, 5], []), ([6], []), ([7], []), ([7, 8], []), ([7], []), ([7, 10], []), ([7, 9, 11], []), ([7, 12], []), ([13], []), ([14], []), ([14], []), ([14, 15, 16], []), ([14, 17], []), ([14, 18], []), ([14], []), ([14], []), ([14, 21], []), ([14, 20, 22], []), ([14, 23], []), ([14, 24], []), ([14, 19, 25], []), ([14, 26], []), ([27], []), ([28], []), ([28], []), ([28, 29, 30], []), ([28, 31], []), ([28, 32], []), ([28], []), ([28], []), ([28, 35], []), ([28, 34, 36], []), ([28, 37], []), ([28, 38], []), ([28, 33, 39], []), ([28, 40], []), ([41], []), ([42], []), ([42], []), ([42, 43, 44], []), ([42, 45], []), ([42, 46], []), ([42, 47], []), ([42, 48], []), ([49], []), ([50], []), ([50], []), ([50, 51, 52], []), ([50, 53], []), ([50, 54], []), ([50, 55], []), ([50, 56], []), ([50, 57], []), ([58], []), ([59], []), ([59], []), ([59, 60, 61], []), ([59, 62], []), ([59, 63], []), ([59, 64], []), ([59, 65], []), ([59, 66], [])], by kernel_rfl, ⟨fun S hS => aB rfl (aL rfl (aD (v := .d (.lit (.int .i64 r33.2))) (aA rfl) (aC hS rfl) rfl)),
      fun S hS => aB rfl (aL rfl (bP (aA rfl) (aC hS rfl) rfl rfl)),
      fun S hS => aB rfl (aL rfl (aD (v := .d (.lit (.bool ((!decide (r33.2 = 3)))))) (aA rfl) (aC hS rfl) rfl)),
      fun S hS => aB rfl (aO rfl rfl (aA rfl) (aF hS rfl) c37 (aN (aA rfl) (aC hS rfl) dW)),
      fun S hS => aB rfl (aO rfl rfl (aA rfl) (aF hS rfl) c37 (aQ (aA rfl) (aC hS rfl) (i := 1) rfl rfl bL)),
      fun S hS => aB rfl (aO rfl rfl (aA rfl) (aF hS rfl) c37 (bP (aA rfl) (aC hS rfl) rfl rfl)),
      fun S hS => aB rfl (aL rfl (bQ (v := .d (.lit (.bool ((decide (x30.Round < 0)))))) (aA rfl) (aC hS rfl) c37 (aC hS rfl) rfl)),
      fun S hS => aB rfl (aL rfl (aD (v := .d (.lit (.bool (decide (x30.Round < 0))))) (aA rfl) (aC hS rfl) rfl)),
      fun S hS => aB rfl (aO rfl rfl (aA rfl) (aF hS rfl) c40 (aN (aA rfl) (aC hS rfl) dW)),
      fun S hS => aB rfl (aO rfl rfl (aA rfl) (aF hS rfl) c40 (aQ (aA rfl) (aC hS rfl) (i := 1) rfl rfl bL)),
      fun S hS => aB rfl (aO rfl rfl (aA rfl) (aF hS rfl) c40 (aN (aA rfl) (aC hS rfl) jG)),
      fun S hS => aB rfl (aO rfl rfl (aA rfl) (aF hS rfl) c40 (aQ (aA rfl) (aC hS rfl) (i := 0) rfl rfl bL)),
      fun S hS => aB rfl (aO rfl rfl (aA rfl) (aF hS rfl) c40 (bP (aA rfl) (aC hS rfl) (aC hS rfl) rfl)),
      fun S hS => aB rfl (aL rfl (bQ (v := .d (.lit (.bool ((decide (t_0.Rounds ≤ x30.Round)))))) (aA rfl) (aC hS rfl) c40 (aC hS rfl) rfl)),
      fun S hS => aB rfl (aL rfl (aD (v := .d (.lit (.bool (decide (t_0.Rounds ≤ x30.Round))))) (aA rfl) (aC hS rfl) rfl)),
      fun S hS => aB rfl (aO rfl rfl (aA rfl) (aF hS rfl) c43 (aD (v := .d (.sl 6 (r9.1.map aT))) (aA rfl) (aC hS rfl) rfl)),
      fun S hS => aB rfl (aO rfl rfl (aA rfl) (aF hS rfl) c43 (aD (v := .d (.lit (.int .i64 i_0_27))) (aA rfl) (aC hS rfl) rfl)),
      fun S hS => aB rfl (aO rfl rfl (aA rfl) (aF hS rfl) c43 (bU (aA rfl) (aC hS rfl) (aC hS rfl) eE.of (cE aT h45))),
      fun S hS => aB rfl (aO rfl rfl (aA rfl) (aF hS rfl) c43 (cC (aA rfl) (aC hS rfl) mO (es := [.lit (.int .i64 x44.Length.Low), .lit (.int .i64 x44.Length.High)]) rfl)),
      fun S hS => aB rfl (aO rfl rfl (aA rfl) (aF hS rfl) c43 (dE (aA rfl) (aC hS rfl) gM (es := (bA x44.Length)) rfl rfl)),
      fun S hS => aB rfl (aO rfl rfl (aA rfl) (aF hS rfl) c43 (aD (v := .d (.sl 3 (stages_2.map cD))) (aA rfl) (aC hS rfl) rfl)),
      fun S hS => aB rfl (aO rfl rfl (aA rfl) (aF hS rfl) c43 (aN (aA rfl) (aC hS rfl) dW)),
      fun S hS => aB rfl (aO rfl rfl (aA rfl) (aF hS rfl) c43 (aQ (aA rfl) (aC hS rfl) (i := 1) rfl rfl bL)),
      fun S hS => aB rfl (aO rfl rfl (aA rfl) (aF hS rfl) c43 (bU (aA rfl) (aC hS rfl) (aC hS rfl) mW.of (cE cD h47))),
      fun S hS => aB rfl (aO rfl rfl (aA rfl) (aF hS rfl) c43 (cC (aA rfl) (aC hS rfl) pO (es := [.lit (.int .i64 x46.Length.Low), .lit (.int .i64 x46.Length.High)]) rfl)),
      fun S hS => aB rfl (aO rfl rfl (aA rfl) (aF hS rfl) c43 (dE (aA rfl) (aC hS rfl) gM (es := (bA x46.Length)) rfl rfl)),
      fun S hS => aB rfl (aO rfl rfl (aA rfl) (aF hS rfl) c43 (vM (a := x44.Length) (b := x46.Length) (aA rfl) (aC hS rfl) (aC hS rfl) rfl rfl Try.eqGuardType34 wC)),
      fun S hS => aB rfl (aL rfl (bQ (v := .d (.lit (.bool ((!decide (x44.Length = x46.Length)))))) (aA rfl) (aC hS rfl) c43 (aC hS rfl) rfl)),
      fun S hS => aB rfl (aL rfl (aD (v := .d (.lit (.bool (!decide (x44.Length = x46.Length))))) (aA rfl) (aC hS rfl) rfl)),
      fun S hS => aB rfl (aO rfl rfl (aA rfl) (aF hS rfl) c50 (aD (v := .d (.sl 6 (r9.1.map aT))) (aA rfl) (aC hS rfl) rfl)),
      fun S hS => aB rfl (aO rfl rfl (aA rfl) (aF hS rfl) c50 (aD (v := .d (.lit (.int .i64 i_0_27))) (aA rfl) (aC hS rfl) rfl)),
      fun S hS => aB rfl (aO rfl rfl (aA rfl) (aF hS rfl) c50 (bU (aA rfl) (aC hS rfl) (aC hS rfl) eE.of (cE aT h52))),
      fun S hS => aB rfl (aO rfl rfl (aA rfl) (aF hS rfl) c50 (cC (aA rfl) (aC hS rfl) mP (es := [.lit (.int .i64 x51.Due)]) rfl)),
      fun S hS => aB rfl (aO rfl rfl (aA rfl) (aF hS rfl) c50 (cJ (aA rfl) (aC hS rfl) bL)),
      fun S hS => aB rfl (aO rfl rfl (aA rfl) (aF hS rfl) c50 (aD (v := .d (.sl 3 (stages_2.map cD))) (aA rfl) (aC hS rfl) rfl)),
      fun S hS => aB rfl (aO rfl rfl (aA rfl) (aF hS rfl) c50 (aN (aA rfl) (aC hS rfl) dW)),
      fun S hS => aB rfl (aO rfl rfl (aA rfl) (aF hS rfl) c50 (aQ (aA rfl) (aC hS rfl) (i := 1) rfl rfl bL)),
      fun S hS => aB rfl (aO rfl rfl (aA rfl) (aF hS rfl) c50 (bU (aA rfl) (aC hS rfl) (aC hS rfl) mW.of (cE cD h54))),
      fun S hS => aB rfl (aO rfl rfl (aA rfl) (aF hS rfl) c50 (cC (aA rfl) (aC hS rfl) rP (es := [.lit (.int .i64 x53.Due)]) rfl)),
      fun S hS => aB rfl (aO rfl rfl (aA rfl) (aF hS rfl) c50 (cJ (aA rfl) (aC hS rfl) bL)),
      fun S hS => aB rfl (aO rfl rfl (aA rfl) (aF hS rfl) c50 (bP (aA rfl) (aC hS rfl) (aC hS rfl) rfl)),
      fun S hS => aB rfl (aL rfl (bQ (v := .d (.lit (.bool ((!decide (x51.Due = x53.Due)))))) (aA rfl) (aC hS rfl) c50 (aC hS rfl) rfl)),
      fun S hS => aB rfl (aL rfl (aD (v := .d (.lit (.bool (!decide (x51.Due = x53.Due))))) (aA rfl) (aC hS rfl) rfl)),
      fun S hS => aB rfl (aM rfl rfl (aA rfl) rfl (aA rfl) (aF hS rfl) c57),
      fun S hS => aB rfl (aM rfl rfl (aA rfl) rfl (aA rfl) (aF hS rfl) c57),
      fun S hS => aB rfl (aM rfl rfl (aA rfl) rfl (aA rfl) (aF hS rfl) c57),
      fun S hS => aB rfl (aM rfl rfl (aA rfl) rfl (aA rfl) (aF hS rfl) c57),
      fun S hS => aB rfl (aM rfl rfl (aA rfl) rfl (aA rfl) (aF hS rfl) c57),
      fun S hS => aB rfl (aM rfl rfl (aA rfl) rfl (aA rfl) (aF hS rfl) c57),
      fun S hS => aB rfl (aL rfl (bR (v := .d (.lit (.bool true))) (aA rfl) (aC hS rfl) c57 rfl rfl)),
      fun S hS => aB rfl (aL rfl (aD (v := .d (.lit (.bool (true)))) (aA rfl) (aC hS rfl) rfl)),
      fun S hS => aB rfl (aM rfl rfl (aA rfl) rfl (aA rfl) (aF hS rfl) c62),
      fun S hS => aB rfl (aM rfl rfl (aA rfl) rfl (aA rfl) (aF hS rfl) c62),
      fun S hS => aB rfl (aM rfl rfl (aA rfl) rfl (aA rfl) (aF hS rfl) c62),
      fun S hS => aB rfl (aM rfl rfl (aA rfl) rfl (aA rfl) (aF hS rfl) c62),
      fun S hS => aB rfl (aM rfl rfl (aA rfl) rfl (aA rfl) (aF hS rfl) c62),
      fun S hS => aB rfl (aM rfl rfl (aA rfl) rfl (aA rfl) (aF hS rfl) c62),
      fun S hS => aB rfl (aM rfl rfl (aA rfl) rfl (aA rfl) (aF hS rfl) c62),
      fun S hS => aB rfl (aL rfl (bR (v := .d (.lit (.bool true))) (aA rfl) (aC hS rfl) c62 rfl rfl)),
      fun S hS => aB rfl (aL rfl (aD (v := .d (.lit (.bool (true)))) (aA rfl) (aC hS rfl) rfl)),
      fun S hS => aB rfl (aM rfl rfl (aA rfl) rfl (aA rfl) (aF hS rfl) c67),
      fun S hS => aB rfl (aM rfl rfl (aA rfl) rfl (aA rfl) (aF hS rfl) c67),
      fun S hS => aB rfl (aM rfl rfl (aA rfl) rfl (aA rfl) (aF hS rfl) c67),
      fun S hS => aB rfl (aM rfl rfl (aA rfl) rfl (aA rfl) (aF hS rfl) c67),
      fun S hS => aB rfl (aM rfl rfl (aA rfl) rfl (aA rfl) (aF hS rfl) c67),
      fun S hS => aB rfl (aM rfl rfl (aA rfl) rfl (aA rfl) (aF hS rfl) c67),
      fun S hS => aB rfl (aM rfl rfl (aA rfl) rfl (aA rfl) (aF hS rfl) c67),
      fun S hS => aB rfl (aL rfl (bR (v := .d (.lit (.bool true))) (aA rfl) (aC hS rfl) c67 rfl rfl)), trivial⟩⟩
                · exact dB (aZ rfl (bC ⟨rfl, rfl, rfl, rfl, rfl, rfl, rfl, trivial⟩))
               ·have h56 := bD c57 h56
                obtain ⟨x58, h59, h56⟩ := bind_some h56
                have h56 := Option.some.inj h56
                subst h56
                refine cA (!decide (x58.Earliest = 0)) (fun c62 => ?_) (fun c62 => ?_)
                ·have h61 := bB c62 h61
                 have h61 := Option.some.inj h61
                 subst h61
                 have c67 : true = true := rfl
                 have h66 := bB c67 h66
                 have h66 := Option.some.inj h66
                 subst h66
                 refine ⟨[(99, 0, .d (.lit (.int .i64 r33.2))), (100, 1, .d (.lit (.bool ((!decide (r33.2 = 3)))))), (101, 2, .d (.lit (.bool ((!decide (r33.2 = 3)))))), (102, 3, .bp b32 0 0), (103, 4, .d (.lit (.int .i64 x30.Round))), (104, 5, .d (.lit (.bool ((decide (x30.Round < 0)))))), (105, 6, .d (.lit (.bool ((decide (x30.Round < 0)))))), (106, 7, .d (.lit (.bool (decide (x30.Round < 0))))), (107, 8, .bp b32 0 0), (108, 9, .d (.lit (.int .i64 x30.Round))), (109, 10, .bp b1 0 0), (110, 11, .d (.lit (.int .i64 t_0.Rounds))), (111, 12, .d (.lit (.bool ((decide (t_0.Rounds ≤ x30.Round)))))), (112, 13, .d (.lit (.bool ((decide (t_0.Rounds ≤ x30.Round)))))), (113, 14, .d (.lit (.bool (decide (t_0.Rounds ≤ x30.Round))))), (114, 15, .d (.sl 6 (r9.1.map aT))), (115, 16, .d (.lit (.int .i64 i_0_27))), (116, 17, .cp [.lit (.int .i64 x44.Length.Low), .lit (.int .i64 x44.Length.High), .sl 1 (x44.After.map aW), .sl 1 (x44.With.map aW), .lit (.int .i64 x44.Due), .lit (.int .i64 x44.Earliest)]), (117, 18, .cp [.lit (.int .i64 x44.Length.Low), .lit (.int .i64 x44.Length.High)]), (118, 19, .agg (bA x44.Length)), (119, 20, .d (.sl 3 (stages_2.map cD))), (120, 21, .bp b32 0 0), (121, 22, .d (.lit (.int .i64 x30.Round))), (122, 23, .cp [.lit (.int .i64 x46.Length.Low), .lit (.int .i64 x46.Length.High), .lit (.int .i64 x46.Due)]), (123, 24, .cp [.lit (.int .i64 x46.Length.Low), .lit (.int .i64 x46.Length.High)]), (124, 25, .agg (bA x46.Length)), (125, 26, .d (.lit (.bool ((!decide (x44.Length = x46.Length)))))), (126, 27, .d (.lit (.bool ((!decide (x44.Length = x46.Length)))))), (127, 28, .d (.lit (.bool (!decide (x44.Length = x46.Length))))), (128, 29, .d (.sl 6 (r9.1.map aT))), (129, 30, .d (.lit (.int .i64 i_0_27))), (130, 31, .cp [.lit (.int .i64 x51.Length.Low), .lit (.int .i64 x51.Length.High), .sl 1 (x51.After.map aW), .sl 1 (x51.With.map aW), .lit (.int .i64 x51.Due), .lit (.int .i64 x51.Earliest)]), (131, 32, .cp [.lit (.int .i64 x51.Due)]), (132, 33, .d (.lit (.int .i64 x51.Due))), (133, 34, .d (.sl 3 (stages_2.map cD))), (134, 35, .bp b32 0 0), (135, 36, .d (.lit (.int .i64 x30.Round))), (136, 37, .cp [.lit (.int .i64 x53.Length.Low), .lit (.int .i64 x53.Length.High), .lit (.int .i64 x53.Due)]), (137, 38, .cp [.lit (.int .i64 x53.Due)]), (138, 39, .d (.lit (.int .i64 x53.Due))), (139, 40, .d (.lit (.bool ((!decide (x51.Due = x53.Due)))))), (140, 41, .d (.lit (.bool ((!decide (x51.Due = x53.Due)))))), (141, 42, .d (.lit (.bool (!decide (x51.Due = x53.Due))))), (142, 43, .d (.sl 6 (r9.1.map aT))), (143, 44, .d (.lit (.int .i64 i_0_27))), (144, 45, .cp [.lit (.int .i64 x58.Length.Low), .lit (.int .i64 x58.Length.High), .sl 1 (x58.After.map aW), .sl 1 (x58.With.map aW), .lit (.int .i64 x58.Due), .lit (.int .i64 x58.Earliest)]), (145, 46, .cp [.lit (.int .i64 x58.Earliest)]), (146, 47, .d (.lit (.int .i64 x58.Earliest))), (147, 48, .d (.lit (.bool ((!decide (x58.Earliest = 0)))))), (148, 49, .d (.lit (.bool ((!decide (x58.Earliest = 0)))))), (149, 50, .d (.lit (.bool (!decide (x58.Earliest = 0))))), (150, 51, .tup []), (151, 52, .tup []), (152, 53, .tup []), (153, 54, .tup []), (154, 55, .tup []), (155, 56, .tup []), (156, 57, .tup []), (157, 58, .d (.lit (.bool true))), (158, 59, .d (.lit (.bool (true)))), (159, 60, .tup []), (160, 61, .tup []), (161, 62, .tup []), (162, 63, .tup []), (163, 64, .tup []), (164, 65, .tup []), (165, 66, .tup []), (166, 67, .d (.lit (.bool true)))], ?_, ?_⟩
                 · exact ⟨by kernel_rfl, by kernel_rfl, by kernel_rfl, by kernel_rfl, by kernel_rfl, [([], []), ([0], []), ([1], []), ([2], []), ([2, 3], []), ([2, 4], []), ([2, 5], []), ([6], []), ([7], []), ([7, 8], []), ([7], []), ([7, 10], []), ([7, 9, 11], []), ([7, 12], []), ([13], []), ([14], []), ([14], []), ([14, 15, 16], []), ([14, 17], []), ([14, 18], []), ([14], []), ([14], []), ([14, 21], []), ([14, 20, 22], []), ([14, 23], []), ([14, 24], []), ([14, 19, 25], []), ([14, 26], []), ([27], []), ([28], []), ([28], []), ([28, 29, 30], []), ([28, 31], []), ([28, 32], []), ([28], []), ([28], []), ([28, 35], []), ([28, 34, 36], []), ([28, 37], []), ([28, 38], []), ([28, 33, 39], []), ([28, 40], []), ([41], []), ([42], []), ([42], []), ([42, 43, 44], []), ([42, 45], []), ([42, 46], []), ([42, 47], []), ([42, 48], []), ([49], []), ([50], []), ([50], []), ([50, 51, 52], []), ([50, 53], []), ([50, 54], []), ([50, 55], []), ([50, 56], []), ([50, 57], []), ([58], []), ([59], []), ([59], []), ([59, 60, 61], []), ([59, 62], []), ([59, 63], []), ([59, 64], []), ([59, 65], []), ([59, 66], [])], by kernel_rfl, ⟨fun S hS => aB rfl (aL rfl (aD (v := .d (.lit (.int .i64 r33.2))) (aA rfl) (aC hS rfl) rfl)),
      fun S hS => aB rfl (aL rfl (bP (aA rfl) (aC hS rfl) rfl rfl)),
      fun S hS => aB rfl (aL rfl (aD (v := .d (.lit (.bool ((!decide (r33.2 = 3)))))) (aA rfl) (aC hS rfl) rfl)),
      fun S hS => aB rfl (aO rfl rfl (aA rfl) (aF hS rfl) c37 (aN (aA rfl) (aC hS rfl) dW)),
      fun S hS => aB rfl (aO rfl rfl (aA rfl) (aF hS rfl) c37 (aQ (aA rfl) (aC hS rfl) (i := 1) rfl rfl bL)),
      fun S hS => aB rfl (aO rfl rfl (aA rfl) (aF hS rfl) c37 (bP (aA rfl) (aC hS rfl) rfl rfl)),
      fun S hS => aB rfl (aL rfl (bQ (v := .d (.lit (.bool ((decide (x30.Round < 0)))))) (aA rfl) (aC hS rfl) c37 (aC hS rfl) rfl)),
      fun S hS => aB rfl (aL rfl (aD (v := .d (.lit (.bool (decide (x30.Round < 0))))) (aA rfl) (aC hS rfl) rfl)),
      fun S hS => aB rfl (aO rfl rfl (aA rfl) (aF hS rfl) c40 (aN (aA rfl) (aC hS rfl) dW)),
      fun S hS => aB rfl (aO rfl rfl (aA rfl) (aF hS rfl) c40 (aQ (aA rfl) (aC hS rfl) (i := 1) rfl rfl bL)),
      fun S hS => aB rfl (aO rfl rfl (aA rfl) (aF hS rfl) c40 (aN (aA rfl) (aC hS rfl) jG)),
      fun S hS => aB rfl (aO rfl rfl (aA rfl) (aF hS rfl) c40 (aQ (aA rfl) (aC hS rfl) (i := 0) rfl rfl bL)),
      fun S hS => aB rfl (aO rfl rfl (aA rfl) (aF hS rfl) c40 (bP (aA rfl) (aC hS rfl) (aC hS rfl) rfl)),
      fun S hS => aB rfl (aL rfl (bQ (v := .d (.lit (.bool ((decide (t_0.Rounds ≤ x30.Round)))))) (aA rfl) (aC hS rfl) c40 (aC hS rfl) rfl)),
      fun S hS => aB rfl (aL rfl (aD (v := .d (.lit (.bool (decide (t_0.Rounds ≤ x30.Round))))) (aA rfl) (aC hS rfl) rfl)),
      fun S hS => aB rfl (aO rfl rfl (aA rfl) (aF hS rfl) c43 (aD (v := .d (.sl 6 (r9.1.map aT))) (aA rfl) (aC hS rfl) rfl)),
      fun S hS => aB rfl (aO rfl rfl (aA rfl) (aF hS rfl) c43 (aD (v := .d (.lit (.int .i64 i_0_27))) (aA rfl) (aC hS rfl) rfl)),
      fun S hS => aB rfl (aO rfl rfl (aA rfl) (aF hS rfl) c43 (bU (aA rfl) (aC hS rfl) (aC hS rfl) eE.of (cE aT h45))),
      fun S hS => aB rfl (aO rfl rfl (aA rfl) (aF hS rfl) c43 (cC (aA rfl) (aC hS rfl) mO (es := [.lit (.int .i64 x44.Length.Low), .lit (.int .i64 x44.Length.High)]) rfl)),
      fun S hS => aB rfl (aO rfl rfl (aA rfl) (aF hS rfl) c43 (dE (aA rfl) (aC hS rfl) gM (es := (bA x44.Length)) rfl rfl)),
      fun S hS => aB rfl (aO rfl rfl (aA rfl) (aF hS rfl) c43 (aD (v := .d (.sl 3 (stages_2.map cD))) (aA rfl) (aC hS rfl) rfl)),
      fun S hS => aB rfl (aO rfl rfl (aA rfl) (aF hS rfl) c43 (aN (aA rfl) (aC hS rfl) dW)),
      fun S hS => aB rfl (aO rfl rfl (aA rfl) (aF hS rfl) c43 (aQ (aA rfl) (aC hS rfl) (i := 1) rfl rfl bL)),
      fun S hS => aB rfl (aO rfl rfl (aA rfl) (aF hS rfl) c43 (bU (aA rfl) (aC hS rfl) (aC hS rfl) mW.of (cE cD h47))),
      fun S hS => aB rfl (aO rfl rfl (aA rfl) (aF hS rfl) c43 (cC (aA rfl) (aC hS rfl) pO (es := [.lit (.int .i64 x46.Length.Low), .lit (.int .i64 x46.Length.High)]) rfl)),
      fun S hS => aB rfl (aO rfl rfl (aA rfl) (aF hS rfl) c43 (dE (aA rfl) (aC hS rfl) gM (es := (bA x46.Length)) rfl rfl)),
      fun S hS => aB rfl (aO rfl rfl (aA rfl) (aF hS rfl) c43 (vM (a := x44.Length) (b := x46.Length) (aA rfl) (aC hS rfl) (aC hS rfl) rfl rfl Try.eqGuardType34 wC)),
      fun S hS => aB rfl (aL rfl (bQ (v := .d (.lit (.bool ((!decide (x44.Length = x46.Length)))))) (aA rfl) (aC hS rfl) c43 (aC hS rfl) rfl)),
      fun S hS => aB rfl (aL rfl (aD (v := .d (.lit (.bool (!decide (x44.Length = x46.Length))))) (aA rfl) (aC hS rfl) rfl)),
      fun S hS => aB rfl (aO rfl rfl (aA rfl) (aF hS rfl) c50 (aD (v := .d (.sl 6 (r9.1.map aT))) (aA rfl) (aC hS rfl) rfl)),
      fun S hS => aB rfl (aO rfl rfl (aA rfl) (aF hS rfl) c50 (aD (v := .d (.lit (.int .i64 i_0_27))) (aA rfl) (aC hS rfl) rfl)),
      fun S hS => aB rfl (aO rfl rfl (aA rfl) (aF hS rfl) c50 (bU (aA rfl) (aC hS rfl) (aC hS rfl) eE.of (cE aT h52))),
      fun S hS => aB rfl (aO rfl rfl (aA rfl) (aF hS rfl) c50 (cC (aA rfl) (aC hS rfl) mP (es := [.lit (.int .i64 x51.Due)]) rfl)),
      fun S hS => aB rfl (aO rfl rfl (aA rfl) (aF hS rfl) c50 (cJ (aA rfl) (aC hS rfl) bL)),
      fun S hS => aB rfl (aO rfl rfl (aA rfl) (aF hS rfl) c50 (aD (v := .d (.sl 3 (stages_2.map cD))) (aA rfl) (aC hS rfl) rfl)),
      fun S hS => aB rfl (aO rfl rfl (aA rfl) (aF hS rfl) c50 (aN (aA rfl) (aC hS rfl) dW)),
      fun S hS => aB rfl (aO rfl rfl (aA rfl) (aF hS rfl) c50 (aQ (aA rfl) (aC hS rfl) (i := 1) rfl rfl bL)),
      fun S hS => aB rfl (aO rfl rfl (aA rfl) (aF hS rfl) c50 (bU (aA rfl) (aC hS rfl) (aC hS rfl) mW.of (cE cD h54))),
      fun S hS => aB rfl (aO rfl rfl (aA rfl) (aF hS rfl) c50 (cC (aA rfl) (aC hS rfl) rP (es := [.lit (.int .i64 x53.Due)]) rfl)),
      fun S hS => aB rfl (aO rfl rfl (aA rfl) (aF hS rfl) c50 (cJ (aA rfl) (aC hS rfl) bL)),
      fun S hS => aB rfl (aO rfl rfl (aA rfl) (aF hS rfl) c50 (bP (aA rfl) (aC hS rfl) (aC hS rfl) rfl)),
      fun S hS => aB rfl (aL rfl (bQ (v := .d (.lit (.bool ((!decide (x51.Due = x53.Due)))))) (aA rfl) (aC hS rfl) c50 (aC hS rfl) rfl)),
      fun S hS => aB rfl (aL rfl (aD (v := .d (.lit (.bool (!decide (x51.Due = x53.Due))))) (aA rfl) (aC hS rfl) rfl)),
      fun S hS => aB rfl (aO rfl rfl (aA rfl) (aF hS rfl) c57 (aD (v := .d (.sl 6 (r9.1.map aT))) (aA rfl) (aC hS rfl) rfl)),
      fun S hS => aB rfl (aO rfl rfl (aA rfl) (aF hS rfl) c57 (aD (v := .d (.lit (.int .i64 i_0_27))) (aA rfl) (aC hS rfl) rfl)),
      fun S hS => aB rfl (aO rfl rfl (aA rfl) (aF hS rfl) c57 (bU (aA rfl) (aC hS rfl) (aC hS rfl) eE.of (cE aT h59))),
      fun S hS => aB rfl (aO rfl rfl (aA rfl) (aF hS rfl) c57 (cC (aA rfl) (aC hS rfl) uC (es := [.lit (.int .i64 x58.Earliest)]) rfl)),
      fun S hS => aB rfl (aO rfl rfl (aA rfl) (aF hS rfl) c57 (cJ (aA rfl) (aC hS rfl) bL)),
      fun S hS => aB rfl (aO rfl rfl (aA rfl) (aF hS rfl) c57 (bP (aA rfl) (aC hS rfl) rfl rfl)),
      fun S hS => aB rfl (aL rfl (bQ (v := .d (.lit (.bool ((!decide (x58.Earliest = 0)))))) (aA rfl) (aC hS rfl) c57 (aC hS rfl) rfl)),
      fun S hS => aB rfl (aL rfl (aD (v := .d (.lit (.bool (!decide (x58.Earliest = 0))))) (aA rfl) (aC hS rfl) rfl)),
      fun S hS => aB rfl (aM rfl rfl (aA rfl) rfl (aA rfl) (aF hS rfl) c62),
      fun S hS => aB rfl (aM rfl rfl (aA rfl) rfl (aA rfl) (aF hS rfl) c62),
      fun S hS => aB rfl (aM rfl rfl (aA rfl) rfl (aA rfl) (aF hS rfl) c62),
      fun S hS => aB rfl (aM rfl rfl (aA rfl) rfl (aA rfl) (aF hS rfl) c62),
      fun S hS => aB rfl (aM rfl rfl (aA rfl) rfl (aA rfl) (aF hS rfl) c62),
      fun S hS => aB rfl (aM rfl rfl (aA rfl) rfl (aA rfl) (aF hS rfl) c62),
      fun S hS => aB rfl (aM rfl rfl (aA rfl) rfl (aA rfl) (aF hS rfl) c62),
      fun S hS => aB rfl (aL rfl (bR (v := .d (.lit (.bool true))) (aA rfl) (aC hS rfl) c62 rfl rfl)),
      fun S hS => aB rfl (aL rfl (aD (v := .d (.lit (.bool (true)))) (aA rfl) (aC hS rfl) rfl)),
      fun S hS => aB rfl (aM rfl rfl (aA rfl) rfl (aA rfl) (aF hS rfl) c67),
      fun S hS => aB rfl (aM rfl rfl (aA rfl) rfl (aA rfl) (aF hS rfl) c67),
      fun S hS => aB rfl (aM rfl rfl (aA rfl) rfl (aA rfl) (aF hS rfl) c67),
      fun S hS => aB rfl (aM rfl rfl (aA rfl) rfl (aA rfl) (aF hS rfl) c67),
      fun S hS => aB rfl (aM rfl rfl (aA rfl) rfl (aA rfl) (aF hS rfl) c67),
      fun S hS => aB rfl (aM rfl rfl (aA rfl) rfl (aA rfl) (aF hS rfl) c67),
      fun S hS => aB rfl (aM rfl rfl (aA rfl) rfl (aA rfl) (aF hS rfl) c67),
      fun S hS => aB rfl (aL rfl (bR (v := .d (.lit (.bool true))) (aA rfl) (aC hS rfl) c67 rfl rfl)), trivial⟩⟩
                 · exact dB (aZ rfl (bC ⟨rfl, rfl, rfl, rfl, rfl, rfl, rfl, trivial⟩))
                ·have h61 := bD c62 h61
                 obtain ⟨x63, h64, h61⟩ := bind_some h61
                 have h61 := Option.some.inj h61
                 subst h61
                 refine cA (decide (0 < (x63.With.length : Int))) (fun c67 => ?_) (fun c67 => ?_)
                 ·have h66 := bB c67 h66
                  have h66 := Option.some.inj h66
                  subst h66
                  refine ⟨[(99, 0, .d (.lit (.int .i64 r33.2))), (100, 1, .d (.lit (.bool ((!decide (r33.2 = 3)))))), (101, 2, .d (.lit (.bool ((!decide (r33.2 = 3)))))), (102, 3, .bp b32 0 0), (103, 4, .d (.lit (.int .i64 x30.Round))), (104, 5, .d (.lit (.bool ((decide (x30.Round < 0)))))), (105, 6, .d (.lit (.bool ((decide (x30.Round < 0)))))), (106, 7, .d (.lit (.bool (decide (x30.Round < 0))))), (107, 8, .bp b32 0 0), (108, 9, .d (.lit (.int .i64 x30.Round))), (109, 10, .bp b1 0 0), (110, 11, .d (.lit (.int .i64 t_0.Rounds))), (111, 12, .d (.lit (.bool ((decide (t_0.Rounds ≤ x30.Round)))))), (112, 13, .d (.lit (.bool ((decide (t_0.Rounds ≤ x30.Round)))))), (113, 14, .d (.lit (.bool (decide (t_0.Rounds ≤ x30.Round))))), (114, 15, .d (.sl 6 (r9.1.map aT))), (115, 16, .d (.lit (.int .i64 i_0_27))), (116, 17, .cp [.lit (.int .i64 x44.Length.Low), .lit (.int .i64 x44.Length.High), .sl 1 (x44.After.map aW), .sl 1 (x44.With.map aW), .lit (.int .i64 x44.Due), .lit (.int .i64 x44.Earliest)]), (117, 18, .cp [.lit (.int .i64 x44.Length.Low), .lit (.int .i64 x44.Length.High)]), (118, 19, .agg (bA x44.Length)), (119, 20, .d (.sl 3 (stages_2.map cD))), (120, 21, .bp b32 0 0), (121, 22, .d (.lit (.int .i64 x30.Round))), (122, 23, .cp [.lit (.int .i64 x46.Length.Low), .lit (.int .i64 x46.Length.High), .lit (.int .i64 x46.Due)]), (123, 24, .cp [.lit (.int .i64 x46.Length.Low), .lit (.int .i64 x46.Length.High)]), (124, 25, .agg (bA x46.Length)), (125, 26, .d (.lit (.bool ((!decide (x44.Length = x46.Length)))))), (126, 27, .d (.lit (.bool ((!decide (x44.Length = x46.Length)))))), (127, 28, .d (.lit (.bool (!decide (x44.Length = x46.Length))))), (128, 29, .d (.sl 6 (r9.1.map aT))), (129, 30, .d (.lit (.int .i64 i_0_27))), (130, 31, .cp [.lit (.int .i64 x51.Length.Low), .lit (.int .i64 x51.Length.High), .sl 1 (x51.After.map aW), .sl 1 (x51.With.map aW), .lit (.int .i64 x51.Due), .lit (.int .i64 x51.Earliest)]), (131, 32, .cp [.lit (.int .i64 x51.Due)]), (132, 33, .d (.lit (.int .i64 x51.Due))), (133, 34, .d (.sl 3 (stages_2.map cD))), (134, 35, .bp b32 0 0), (135, 36, .d (.lit (.int .i64 x30.Round))), (136, 37, .cp [.lit (.int .i64 x53.Length.Low), .lit (.int .i64 x53.Length.High), .lit (.int .i64 x53.Due)]), (137, 38, .cp [.lit (.int .i64 x53.Due)]), (138, 39, .d (.lit (.int .i64 x53.Due))), (139, 40, .d (.lit (.bool ((!decide (x51.Due = x53.Due)))))), (140, 41, .d (.lit (.bool ((!decide (x51.Due = x53.Due)))))), (141, 42, .d (.lit (.bool (!decide (x51.Due = x53.Due))))), (142, 43, .d (.sl 6 (r9.1.map aT))), (143, 44, .d (.lit (.int .i64 i_0_27))), (144, 45, .cp [.lit (.int .i64 x58.Length.Low), .lit (.int .i64 x58.Length.High), .sl 1 (x58.After.map aW), .sl 1 (x58.With.map aW), .lit (.int .i64 x58.Due), .lit (.int .i64 x58.Earliest)]), (145, 46, .cp [.lit (.int .i64 x58.Earliest)]), (146, 47, .d (.lit (.int .i64 x58.Earliest))), (147, 48, .d (.lit (.bool ((!decide (x58.Earliest = 0)))))), (148, 49, .d (.lit (.bool ((!decide (x58.Earliest = 0)))))), (149, 50, .d (.lit (.bool (!decide (x58.Earliest = 0))))), (150, 51, .d (.sl 6 (r9.1.map aT))), (151, 52, .d (.lit (.int .i64 i_0_27))), (152, 53, .cp [.lit (.int .i64 x63.Length.Low), .lit (.int .i64 x63.Length.High), .sl 1 (x63.After.map aW), .sl 1 (x63.With.map aW), .lit (.int .i64 x63.Due), .lit (.int .i64 x63.Earliest)]), (153, 54, .cp [.sl 1 (x63.With.map aW)]), (154, 55, .d (.sl 1 (x63.With.map aW))), (155, 56, .d (.lit (.int .i64 ((x63.With.length : Int))))), (156, 57, .d (.lit (.bool ((decide (0 < (x63.With.length : Int))))))), (157, 58, .d (.lit (.bool ((decide (0 < (x63.With.length : Int))))))), (158, 59, .d (.lit (.bool (decide (0 < (x63.With.length : Int)))))), (159, 60, .tup []), (160, 61, .tup []), (161, 62, .tup []), (162, 63, .tup []), (163, 64, .tup []), (164, 65, .tup []), (165, 66, .tup []), (166, 67, .d (.lit (.bool true)))], ?_, ?_⟩
                  · exact ⟨by kernel_rfl, by kernel_rfl, by kernel_rfl, by kernel_rfl, by kernel_rfl, [([], []), ([0], []), ([1], []), ([2], []), ([2, 3], []), ([2, 4], []), ([2, 5], []), ([6], []), ([7], []), ([7, 8], []), ([7], []), ([7, 10], []), ([7, 9, 11], []), ([7, 12], []), ([13], []), ([14], []), ([14], []), ([14, 15, 16], []), ([14, 17], []), ([14, 18], []), ([14], []), ([14], []), ([14, 21], []), ([14, 20, 22], []), ([14, 23], []), ([14, 24], []), ([14, 19, 25], []), ([14, 26], []), ([27], []), ([28], []), ([28], []), ([28, 29, 30], []), ([28, 31], []), ([28, 32], []), ([28], []), ([28], []), ([28, 35], []), ([28, 34, 36], []), ([28, 37], []), ([28, 38], []), ([28, 33, 39], []), ([28, 40], []), ([41], []), ([42], []), ([42], []), ([42, 43, 44], []), ([42, 45], []), ([42, 46], []), ([42, 47], []), ([42, 48], []), ([49], []), ([50], []), ([50], []), ([50, 51, 52], []), ([50, 53], []), ([50, 54], []), ([50, 55], []), ([50, 56], []), ([50, 57], []), ([58], []), ([59], []), ([59], []), ([59, 60, 61], []), ([59, 62], []), ([59, 63], []), ([59, 64], []), ([59, 65], []), ([59, 66], [])], by kernel_rfl, ⟨fun S hS => aB rfl (aL rfl (aD (v := .d (.lit (.int .i64 r33.2))) (aA rfl) (aC hS rfl) rfl)),
      fun S hS => aB rfl (aL rfl (bP (aA rfl) (aC hS rfl) rfl rfl)),
      fun S hS => aB rfl (aL rfl (aD (v := .d (.lit (.bool ((!decide (r33.2 = 3)))))) (aA rfl) (aC hS rfl) rfl)),
      fun S hS => aB rfl (aO rfl rfl (aA rfl) (aF hS rfl) c37 (aN (aA rfl) (aC hS rfl) dW)),
      fun S hS => aB rfl (aO rfl rfl (aA rfl) (aF hS rfl) c37 (aQ (aA rfl) (aC hS rfl) (i := 1) rfl rfl bL)),
      fun S hS => aB rfl (aO rfl rfl (aA rfl) (aF hS rfl) c37 (bP (aA rfl) (aC hS rfl) rfl rfl)),
      fun S hS => aB rfl (aL rfl (bQ (v := .d (.lit (.bool ((decide (x30.Round < 0)))))) (aA rfl) (aC hS rfl) c37 (aC hS rfl) rfl)),
      fun S hS => aB rfl (aL rfl (aD (v := .d (.lit (.bool (decide (x30.Round < 0))))) (aA rfl) (aC hS rfl) rfl)),
      fun S hS => aB rfl (aO rfl rfl (aA rfl) (aF hS rfl) c40 (aN (aA rfl) (aC hS rfl) dW)),
      fun S hS => aB rfl (aO rfl rfl (aA rfl) (aF hS rfl) c40 (aQ (aA rfl) (aC hS rfl) (i := 1) rfl rfl bL)),
      fun S hS => aB rfl (aO rfl rfl (aA rfl) (aF hS rfl) c40 (aN (aA rfl) (aC hS rfl) jG)),
      fun S hS => aB rfl (aO rfl rfl (aA rfl) (aF hS rfl) c40 (aQ (aA rfl) (aC hS rfl) (i := 0) rfl rfl bL)),
      fun S hS => aB rfl (aO rfl rfl (aA rfl) (aF hS rfl) c40 (bP (aA rfl) (aC hS rfl) (aC hS rfl) rfl)),
      fun S hS => aB rfl (aL rfl (bQ (v := .d (.lit (.bool ((decide (t_0.Rounds ≤ x30.Round)))))) (aA rfl) (aC hS rfl) c40 (aC hS rfl) rfl)),
      fun S hS => aB rfl (aL rfl (aD (v := .d (.lit (.bool (decide (t_0.Rounds ≤ x30.Round))))) (aA rfl) (aC hS rfl) rfl)),
      fun S hS => aB rfl (aO rfl rfl (aA rfl) (aF hS rfl) c43 (aD (v := .d (.sl 6 (r9.1.map aT))) (aA rfl) (aC hS rfl) rfl)),
      fun S hS => aB rfl (aO rfl rfl (aA rfl) (aF hS rfl) c43 (aD (v := .d (.lit (.int .i64 i_0_27))) (aA rfl) (aC hS rfl) rfl)),
      fun S hS => aB rfl (aO rfl rfl (aA rfl) (aF hS rfl) c43 (bU (aA rfl) (aC hS rfl) (aC hS rfl) eE.of (cE aT h45))),
      fun S hS => aB rfl (aO rfl rfl (aA rfl) (aF hS rfl) c43 (cC (aA rfl) (aC hS rfl) mO (es := [.lit (.int .i64 x44.Length.Low), .lit (.int .i64 x44.Length.High)]) rfl)),
      fun S hS => aB rfl (aO rfl rfl (aA rfl) (aF hS rfl) c43 (dE (aA rfl) (aC hS rfl) gM (es := (bA x44.Length)) rfl rfl)),
      fun S hS => aB rfl (aO rfl rfl (aA rfl) (aF hS rfl) c43 (aD (v := .d (.sl 3 (stages_2.map cD))) (aA rfl) (aC hS rfl) rfl)),
      fun S hS => aB rfl (aO rfl rfl (aA rfl) (aF hS rfl) c43 (aN (aA rfl) (aC hS rfl) dW)),
      fun S hS => aB rfl (aO rfl rfl (aA rfl) (aF hS rfl) c43 (aQ (aA rfl) (aC hS rfl) (i := 1) rfl rfl bL)),
      fun S hS => aB rfl (aO rfl rfl (aA rfl) (aF hS rfl) c43 (bU (aA rfl) (aC hS rfl) (aC hS rfl) mW.of (cE cD h47))),
      fun S hS => aB rfl (aO rfl rfl (aA rfl) (aF hS rfl) c43 (cC (aA rfl) (aC hS rfl) pO (es := [.lit (.int .i64 x46.Length.Low), .lit (.int .i64 x46.Length.High)]) rfl)),
      fun S hS => aB rfl (aO rfl rfl (aA rfl) (aF hS rfl) c43 (dE (aA rfl) (aC hS rfl) gM (es := (bA x46.Length)) rfl rfl)),
      fun S hS => aB rfl (aO rfl rfl (aA rfl) (aF hS rfl) c43 (vM (a := x44.Length) (b := x46.Length) (aA rfl) (aC hS rfl) (aC hS rfl) rfl rfl Try.eqGuardType34 wC)),
      fun S hS => aB rfl (aL rfl (bQ (v := .d (.lit (.bool ((!decide (x44.Length = x46.Length)))))) (aA rfl) (aC hS rfl) c43 (aC hS rfl) rfl)),
      fun S hS => aB rfl (aL rfl (aD (v := .d (.lit (.bool (!decide (x44.Length = x46.Length))))) (aA rfl) (aC hS rfl) rfl)),
      fun S hS => aB rfl (aO rfl rfl (aA rfl) (aF hS rfl) c50 (aD (v := .d (.sl 6 (r9.1.map aT))) (aA rfl) (aC hS rfl) rfl)),
      fun S hS => aB rfl (aO rfl rfl (aA rfl) (aF hS rfl) c50 (aD (v := .d (.lit (.int .i64 i_0_27))) (aA rfl) (aC hS rfl) rfl)),
      fun S hS => aB rfl (aO rfl rfl (aA rfl) (aF hS rfl) c50 (bU (aA rfl) (aC hS rfl) (aC hS rfl) eE.of (cE aT h52))),
      fun S hS => aB rfl (aO rfl rfl (aA rfl) (aF hS rfl) c50 (cC (aA rfl) (aC hS rfl) mP (es := [.lit (.int .i64 x51.Due)]) rfl)),
      fun S hS => aB rfl (aO rfl rfl (aA rfl) (aF hS rfl) c50 (cJ (aA rfl) (aC hS rfl) bL)),
      fun S hS => aB rfl (aO rfl rfl (aA rfl) (aF hS rfl) c50 (aD (v := .d (.sl 3 (stages_2.map cD))) (aA rfl) (aC hS rfl) rfl)),
      fun S hS => aB rfl (aO rfl rfl (aA rfl) (aF hS rfl) c50 (aN (aA rfl) (aC hS rfl) dW)),
      fun S hS => aB rfl (aO rfl rfl (aA rfl) (aF hS rfl) c50 (aQ (aA rfl) (aC hS rfl) (i := 1) rfl rfl bL)),
      fun S hS => aB rfl (aO rfl rfl (aA rfl) (aF hS rfl) c50 (bU (aA rfl) (aC hS rfl) (aC hS rfl) mW.of (cE cD h54))),
      fun S hS => aB rfl (aO rfl rfl (aA rfl) (aF hS rfl) c50 (cC (aA rfl) (aC hS rfl) rP (es := [.lit (.int .i64 x53.Due)]) rfl)),
      fun S hS => aB rfl (aO rfl rfl (aA rfl) (aF hS rfl) c50 (cJ (aA rfl) (aC hS rfl) bL)),
      fun S hS => aB rfl (aO rfl rfl (aA rfl) (aF hS rfl) c50 (bP (aA rfl) (aC hS rfl) (aC hS rfl) rfl)),
      fun S hS => aB rfl (aL rfl (bQ (v := .d (.lit (.bool ((!decide (x51.Due = x53.Due)))))) (aA rfl) (aC hS rfl) c50 (aC hS rfl) rfl)),
      fun S hS => aB rfl (aL rfl (aD (v := .d (.lit (.bool (!decide (x51.Due = x53.Due))))) (aA rfl) (aC hS rfl) rfl)),
      fun S hS => aB rfl (aO rfl rfl (aA rfl) (aF hS rfl) c57 (aD (v := .d (.sl 6 (r9.1.map aT))) (aA rfl) (aC hS rfl) rfl)),
      fun S hS => aB rfl (aO rfl rfl (aA rfl) (aF hS rfl) c57 (aD (v := .d (.lit (.int .i64 i_0_27))) (aA rfl) (aC hS rfl) rfl)),
      fun S hS => aB rfl (aO rfl rfl (aA rfl) (aF hS rfl) c57 (bU (aA rfl) (aC hS rfl) (aC hS rfl) eE.of (cE aT h59))),
      fun S hS => aB rfl (aO rfl rfl (aA rfl) (aF hS rfl) c57 (cC (aA rfl) (aC hS rfl) uC (es := [.lit (.int .i64 x58.Earliest)]) rfl)),
      fun S hS => aB rfl (aO rfl rfl (aA rfl) (aF hS rfl) c57 (cJ (aA rfl) (aC hS rfl) bL)),
      fun S hS => aB rfl (aO rfl rfl (aA rfl) (aF hS rfl) c57 (bP (aA rfl) (aC hS rfl) rfl rfl)),
      fun S hS => aB rfl (aL rfl (bQ (v := .d (.lit (.bool ((!decide (x58.Earliest = 0)))))) (aA rfl) (aC hS rfl) c57 (aC hS rfl) rfl)),
      fun S hS => aB rfl (aL rfl (aD (v := .d (.lit (.bool (!decide (x58.Earliest = 0))))) (aA rfl) (aC hS rfl) rfl)),
      fun S hS => aB rfl (aO rfl rfl (aA rfl) (aF hS rfl) c62 (aD (v := .d (.sl 6 (r9.1.map aT))) (aA rfl) (aC hS rfl) rfl)),
      fun S hS => aB rfl (aO rfl rfl (aA rfl) (aF hS rfl) c62 (aD (v := .d (.lit (.int .i64 i_0_27))) (aA rfl) (aC hS rfl) rfl)),
      fun S hS => aB rfl (aO rfl rfl (aA rfl) (aF hS rfl) c62 (bU (aA rfl) (aC hS rfl) (aC hS rfl) eE.of (cE aT h64))),
      fun S hS => aB rfl (aO rfl rfl (aA rfl) (aF hS rfl) c62 (cC (aA rfl) (aC hS rfl) uB (es := [.sl 1 (x63.With.map aW)]) rfl)),
      fun S hS => aB rfl (aO rfl rfl (aA rfl) (aF hS rfl) c62 (cJ (aA rfl) (aC hS rfl) eI)),
      fun S hS => aB rfl (aO rfl rfl (aA rfl) (aF hS rfl) c62 (dC (aA rfl) (aC hS rfl) dV.of)),
      fun S hS => aB rfl (aO rfl rfl (aA rfl) (aF hS rfl) c62 (bP (aA rfl) (aC hS rfl) rfl rfl)),
      fun S hS => aB rfl (aL rfl (bQ (v := .d (.lit (.bool ((decide (0 < (x63.With.length : Int))))))) (aA rfl) (aC hS rfl) c62 (aC hS rfl) rfl)),
      fun S hS => aB rfl (aL rfl (aD (v := .d (.lit (.bool (decide (0 < (x63.With.length : Int)))))) (aA rfl) (aC hS rfl) rfl)),
      fun S hS => aB rfl (aM rfl rfl (aA rfl) rfl (aA rfl) (aF hS rfl) c67),
      fun S hS => aB rfl (aM rfl rfl (aA rfl) rfl (aA rfl) (aF hS rfl) c67),
      fun S hS => aB rfl (aM rfl rfl (aA rfl) rfl (aA rfl) (aF hS rfl) c67),
      fun S hS => aB rfl (aM rfl rfl (aA rfl) rfl (aA rfl) (aF hS rfl) c67),
      fun S hS => aB rfl (aM rfl rfl (aA rfl) rfl (aA rfl) (aF hS rfl) c67),
      fun S hS => aB rfl (aM rfl rfl (aA rfl) rfl (aA rfl) (aF hS rfl) c67),
      fun S hS => aB rfl (aM rfl rfl (aA rfl) rfl (aA rfl) (aF hS rfl) c67),
      fun S hS => aB rfl (aL rfl (bR (v := .d (.lit (.bool true))) (aA rfl) (aC hS rfl) c67 rfl rfl)), trivial⟩⟩
                  · exact dB (aZ rfl (bC ⟨rfl, rfl, rfl, rfl, rfl, rfl, rfl, trivial⟩))
                 ·have h66 := bD c67 h66
                  obtain ⟨x68, h69, h66⟩ := bind_some h66
                  have h66 := Option.some.inj h66
                  subst h66
                  refine ⟨[(99, 0, .d (.lit (.int .i64 r33.2))), (100, 1, .d (.lit (.bool ((!decide (r33.2 = 3)))))), (101, 2, .d (.lit (.bool ((!decide (r33.2 = 3)))))), (102, 3, .bp b32 0 0), (103, 4, .d (.lit (.int .i64 x30.Round))), (104, 5, .d (.lit (.bool ((decide (x30.Round < 0)))))), (105, 6, .d (.lit (.bool ((decide (x30.Round < 0)))))), (106, 7, .d (.lit (.bool (decide (x30.Round < 0))))), (107, 8, .bp b32 0 0), (108, 9, .d (.lit (.int .i64 x30.Round))), (109, 10, .bp b1 0 0), (110, 11, .d (.lit (.int .i64 t_0.Rounds))), (111, 12, .d (.lit (.bool ((decide (t_0.Rounds ≤ x30.Round)))))), (112, 13, .d (.lit (.bool ((decide (t_0.Rounds ≤ x30.Round)))))), (113, 14, .d (.lit (.bool (decide (t_0.Rounds ≤ x30.Round))))), (114, 15, .d (.sl 6 (r9.1.map aT))), (115, 16, .d (.lit (.int .i64 i_0_27))), (116, 17, .cp [.lit (.int .i64 x44.Length.Low), .lit (.int .i64 x44.Length.High), .sl 1 (x44.After.map aW), .sl 1 (x44.With.map aW), .lit (.int .i64 x44.Due), .lit (.int .i64 x44.Earliest)]), (117, 18, .cp [.lit (.int .i64 x44.Length.Low), .lit (.int .i64 x44.Length.High)]), (118, 19, .agg (bA x44.Length)), (119, 20, .d (.sl 3 (stages_2.map cD))), (120, 21, .bp b32 0 0), (121, 22, .d (.lit (.int .i64 x30.Round))), (122, 23, .cp [.lit (.int .i64 x46.Length.Low), .lit (.int .i64 x46.Length.High), .lit (.int .i64 x46.Due)]), (123, 24, .cp [.lit (.int .i64 x46.Length.Low), .lit (.int .i64 x46.Length.High)]), (124, 25, .agg (bA x46.Length)), (125, 26, .d (.lit (.bool ((!decide (x44.Length = x46.Length)))))), (126, 27, .d (.lit (.bool ((!decide (x44.Length = x46.Length)))))), (127, 28, .d (.lit (.bool (!decide (x44.Length = x46.Length))))), (128, 29, .d (.sl 6 (r9.1.map aT))), (129, 30, .d (.lit (.int .i64 i_0_27))), (130, 31, .cp [.lit (.int .i64 x51.Length.Low), .lit (.int .i64 x51.Length.High), .sl 1 (x51.After.map aW), .sl 1 (x51.With.map aW), .lit (.int .i64 x51.Due), .lit (.int .i64 x51.Earliest)]), (131, 32, .cp [.lit (.int .i64 x51.Due)]), (132, 33, .d (.lit (.int .i64 x51.Due))), (133, 34, .d (.sl 3 (stages_2.map cD))), (134, 35, .bp b32 0 0), (135, 36, .d (.lit (.int .i64 x30.Round))), (136, 37, .cp [.lit (.int .i64 x53.Length.Low), .lit (.int .i64 x53.Length.High), .lit (.int .i64 x53.Due)]), (137, 38, .cp [.lit (.int .i64 x53.Due)]), (138, 39, .d (.lit (.int .i64 x53.Due))), (139, 40, .d (.lit (.bool ((!decide (x51.Due = x53.Due)))))), (140, 41, .d (.lit (.bool ((!decide (x51.Due = x53.Due)))))), (141, 42, .d (.lit (.bool (!decide (x51.Due = x53.Due))))), (142, 43, .d (.sl 6 (r9.1.map aT))), (143, 44, .d (.lit (.int .i64 i_0_27))), (144, 45, .cp [.lit (.int .i64 x58.Length.Low), .lit (.int .i64 x58.Length.High), .sl 1 (x58.After.map aW), .sl 1 (x58.With.map aW), .lit (.int .i64 x58.Due), .lit (.int .i64 x58.Earliest)]), (145, 46, .cp [.lit (.int .i64 x58.Earliest)]), (146, 47, .d (.lit (.int .i64 x58.Earliest))), (147, 48, .d (.lit (.bool ((!decide (x58.Earliest = 0)))))), (148, 49, .d (.lit (.bool ((!decide (x58.Earliest = 0)))))), (149, 50, .d (.lit (.bool (!decide (x58.Earliest = 0))))), (150, 51, .d (.sl 6 (r9.1.map aT))), (151, 52, .d (.lit (.int .i64 i_0_27))), (152, 53, .cp [.lit (.int .i64 x63.Length.Low), .lit (.int .i64 x63.Length.High), .sl 1 (x63.After.map aW), .sl 1 (x63.With.map aW), .lit (.int .i64 x63.Due), .lit (.int .i64 x63.Earliest)]), (153, 54, .cp [.sl 1 (x63.With.map aW)]), (154, 55, .d (.sl 1 (x63.With.map aW))), (155, 56, .d (.lit (.int .i64 ((x63.With.length : Int))))), (156, 57, .d (.lit (.bool ((decide (0 < (x63.With.length : Int))))))), (157, 58, .d (.lit (.bool ((decide (0 < (x63.With.length : Int))))))), (158, 59, .d (.lit (.bool (decide (0 < (x63.With.length : Int)))))), (159, 60, .d (.sl 6 (r9.1.map aT))), (160, 61, .d (.lit (.int .i64 i_0_27))), (161, 62, .cp [.lit (.int .i64 x68.Length.Low), .lit (.int .i64 x68.Length.High), .sl 1 (x68.After.map aW), .sl 1 (x68.With.map aW), .lit (.int .i64 x68.Due), .lit (.int .i64 x68.Earliest)]), (162, 63, .cp [.sl 1 (x68.After.map aW)]), (163, 64, .d (.sl 1 (x68.After.map aW))), (164, 65, .d (.lit (.int .i64 ((x68.After.length : Int))))), (165, 66, .d (.lit (.bool ((decide (2 < (x68.After.length : Int))))))), (166, 67, .d (.lit (.bool ((decide (2 < (x68.After.length : Int)))))))], ?_, ?_⟩
                  · exact ⟨by kernel_rfl, by kernel_rfl, by kernel_rfl, by kernel_rfl, by kernel_rfl, [([], []), ([0], []), ([1], []), ([2], []), ([2, 3], []), ([2, 4], []), ([2, 5], []), ([6], []), ([7], []), ([7, 8], []), ([7], []), ([7, 10], []), ([7, 9, 11], []), ([7, 12], []), ([13], []), ([14], []), ([14], []), ([14, 15, 16], []), ([14, 17], []), ([14, 18], []), ([14], []), ([14], []), ([14, 21], []), ([14, 20, 22], []), ([14, 23], []), ([14, 24], []), ([14, 19, 25], []), ([14, 26], []), ([27], []), ([28], []), ([28], []), ([28, 29, 30], []), ([28, 31], []), ([28, 32], []), ([28], []), ([28], []), ([28, 35], []), ([28, 34, 36], []), ([28, 37], []), ([28, 38], []), ([28, 33, 39], []), ([28, 40], []), ([41], []), ([42], []), ([42], []), ([42, 43, 44], []), ([42, 45], []), ([42, 46], []), ([42, 47], []), ([42, 48], []), ([49], []), ([50], []), ([50], []), ([50, 51, 52], []), ([50, 53], []), ([50, 54], []), ([50, 55], []), ([50, 56], []), ([50, 57], []), ([58], []), ([59], []), ([59], []), ([59, 60, 61], []), ([59, 62], []), ([59, 63], []), ([59, 64], []), ([59, 65], []), ([59, 66], [])], by kernel_rfl, ⟨fun S hS => aB rfl (aL rfl (aD (v := .d (.lit (.int .i64 r33.2))) (aA rfl) (aC hS rfl) rfl)),
      fun S hS => aB rfl (aL rfl (bP (aA rfl) (aC hS rfl) rfl rfl)),
      fun S hS => aB rfl (aL rfl (aD (v := .d (.lit (.bool ((!decide (r33.2 = 3)))))) (aA rfl) (aC hS rfl) rfl)),
      fun S hS => aB rfl (aO rfl rfl (aA rfl) (aF hS rfl) c37 (aN (aA rfl) (aC hS rfl) dW)),
      fun S hS => aB rfl (aO rfl rfl (aA rfl) (aF hS rfl) c37 (aQ (aA rfl) (aC hS rfl) (i := 1) rfl rfl bL)),
      fun S hS => aB rfl (aO rfl rfl (aA rfl) (aF hS rfl) c37 (bP (aA rfl) (aC hS rfl) rfl rfl)),
      fun S hS => aB rfl (aL rfl (bQ (v := .d (.lit (.bool ((decide (x30.Round < 0)))))) (aA rfl) (aC hS rfl) c37 (aC hS rfl) rfl)),
      fun S hS => aB rfl (aL rfl (aD (v := .d (.lit (.bool (decide (x30.Round < 0))))) (aA rfl) (aC hS rfl) rfl)),
      fun S hS => aB rfl (aO rfl rfl (aA rfl) (aF hS rfl) c40 (aN (aA rfl) (aC hS rfl) dW)),
      fun S hS => aB rfl (aO rfl rfl (aA rfl) (aF hS rfl) c40 (aQ (aA rfl) (aC hS rfl) (i := 1) rfl rfl bL)),
      fun S hS => aB rfl (aO rfl rfl (aA rfl) (aF hS rfl) c40 (aN (aA rfl) (aC hS rfl) jG)),
      fun S hS => aB rfl (aO rfl rfl (aA rfl) (aF hS rfl) c40 (aQ (aA rfl) (aC hS rfl) (i := 0) rfl rfl bL)),
      fun S hS => aB rfl (aO rfl rfl (aA rfl) (aF hS rfl) c40 (bP (aA rfl) (aC hS rfl) (aC hS rfl) rfl)),
      fun S hS => aB rfl (aL rfl (bQ (v := .d (.lit (.bool ((decide (t_0.Rounds ≤ x30.Round)))))) (aA rfl) (aC hS rfl) c40 (aC hS rfl) rfl)),
      fun S hS => aB rfl (aL rfl (aD (v := .d (.lit (.bool (decide (t_0.Rounds ≤ x30.Round))))) (aA rfl) (aC hS rfl) rfl)),
      fun S hS => aB rfl (aO rfl rfl (aA rfl) (aF hS rfl) c43 (aD (v := .d (.sl 6 (r9.1.map aT))) (aA rfl) (aC hS rfl) rfl)),
      fun S hS => aB rfl (aO rfl rfl (aA rfl) (aF hS rfl) c43 (aD (v := .d (.lit (.int .i64 i_0_27))) (aA rfl) (aC hS rfl) rfl)),
      fun S hS => aB rfl (aO rfl rfl (aA rfl) (aF hS rfl) c43 (bU (aA rfl) (aC hS rfl) (aC hS rfl) eE.of (cE aT h45))),
      fun S hS => aB rfl (aO rfl rfl (aA rfl) (aF hS rfl) c43 (cC (aA rfl) (aC hS rfl) mO (es := [.lit (.int .i64 x44.Length.Low), .lit (.int .i64 x44.Length.High)]) rfl)),
      fun S hS => aB rfl (aO rfl rfl (aA rfl) (aF hS rfl) c43 (dE (aA rfl) (aC hS rfl) gM (es := (bA x44.Length)) rfl rfl)),
      fun S hS => aB rfl (aO rfl rfl (aA rfl) (aF hS rfl) c43 (aD (v := .d (.sl 3 (stages_2.map cD))) (aA rfl) (aC hS rfl) rfl)),
      fun S hS => aB rfl (aO rfl rfl (aA rfl) (aF hS rfl) c43 (aN (aA rfl) (aC hS rfl) dW)),
      fun S hS => aB rfl (aO rfl rfl (aA rfl) (aF hS rfl) c43 (aQ (aA rfl) (aC hS rfl) (i := 1) rfl rfl bL)),
      fun S hS => aB rfl (aO rfl rfl (aA rfl) (aF hS rfl) c43 (bU (aA rfl) (aC hS rfl) (aC hS rfl) mW.of (cE cD h47))),
      fun S hS => aB rfl (aO rfl rfl (aA rfl) (aF hS rfl) c43 (cC (aA rfl) (aC hS rfl) pO (es := [.lit (.int .i64 x46.Length.Low), .lit (.int .i64 x46.Length.High)]) rfl)),
      fun S hS => aB rfl (aO rfl rfl (aA rfl) (aF hS rfl) c43 (dE (aA rfl) (aC hS rfl) gM (es := (bA x46.Length)) rfl rfl)),
      fun S hS => aB rfl (aO rfl rfl (aA rfl) (aF hS rfl) c43 (vM (a := x44.Length) (b := x46.Length) (aA rfl) (aC hS rfl) (aC hS rfl) rfl rfl Try.eqGuardType34 wC)),
      fun S hS => aB rfl (aL rfl (bQ (v := .d (.lit (.bool ((!decide (x44.Length = x46.Length)))))) (aA rfl) (aC hS rfl) c43 (aC hS rfl) rfl)),
      fun S hS => aB rfl (aL rfl (aD (v := .d (.lit (.bool (!decide (x44.Length = x46.Length))))) (aA rfl) (aC hS rfl) rfl)),
      fun S hS => aB rfl (aO rfl rfl (aA rfl) (aF hS rfl) c50 (aD (v := .d (.sl 6 (r9.1.map aT))) (aA rfl) (aC hS rfl) rfl)),
      fun S hS => aB rfl (aO rfl rfl (aA rfl) (aF hS rfl) c50 (aD (v := .d (.lit (.int .i64 i_0_27))) (aA rfl) (aC hS rfl) rfl)),
      fun S hS => aB rfl (aO rfl rfl (aA rfl) (aF hS rfl) c50 (bU (aA rfl) (aC hS rfl) (aC hS rfl) eE.of (cE aT h52))),
      fun S hS => aB rfl (aO rfl rfl (aA rfl) (aF hS rfl) c50 (cC (aA rfl) (aC hS rfl) mP (es := [.lit (.int .i64 x51.Due)]) rfl)),
      fun S hS => aB rfl (aO rfl rfl (aA rfl) (aF hS rfl) c50 (cJ (aA rfl) (aC hS rfl) bL)),
      fun S hS => aB rfl (aO rfl rfl (aA rfl) (aF hS rfl) c50 (aD (v := .d (.sl 3 (stages_2.map cD))) (aA rfl) (aC hS rfl) rfl)),
      fun S hS => aB rfl (aO rfl rfl (aA rfl) (aF hS rfl) c50 (aN (aA rfl) (aC hS rfl) dW)),
      fun S hS => aB rfl (aO rfl rfl (aA rfl) (aF hS rfl) c50 (aQ (aA rfl) (aC hS rfl) (i := 1) rfl rfl bL)),
      fun S hS => aB rfl (aO rfl rfl (aA rfl) (aF hS rfl) c50 (bU (aA rfl) (aC hS rfl) (aC hS rfl) mW.of (cE cD h54))),
      fun S hS => aB rfl (aO rfl rfl (aA rfl) (aF hS rfl) c50 (cC (aA rfl) (aC hS rfl) rP (es := [.lit (.int .i64 x53.Due)]) rfl)),
      fun S hS => aB rfl (aO rfl rfl (aA rfl) (aF hS rfl) c50 (cJ (aA rfl) (aC hS rfl) bL)),
      fun S hS => aB rfl (aO rfl rfl (aA rfl) (aF hS rfl) c50 (bP (aA rfl) (aC hS rfl) (aC hS rfl) rfl)),
      fun S hS => aB rfl (aL rfl (bQ (v := .d (.lit (.bool ((!decide (x51.Due = x53.Due)))))) (aA rfl) (aC hS rfl) c50 (aC hS rfl) rfl)),
      fun S hS => aB rfl (aL rfl (aD (v := .d (.lit (.bool (!decide (x51.Due = x53.Due))))) (aA rfl) (aC hS rfl) rfl)),
      fun S hS => aB rfl (aO rfl rfl (aA rfl) (aF hS rfl) c57 (aD (v := .d (.sl 6 (r9.1.map aT))) (aA rfl) (aC hS rfl) rfl)),
      fun S hS => aB rfl (aO rfl rfl (aA rfl) (aF hS rfl) c57 (aD (v := .d (.lit (.int .i64 i_0_27))) (aA rfl) (aC hS rfl) rfl)),
      fun S hS => aB rfl (aO rfl rfl (aA rfl) (aF hS rfl) c57 (bU (aA rfl) (aC hS rfl) (aC hS rfl) eE.of (cE aT h59))),
      fun S hS => aB rfl (aO rfl rfl (aA rfl) (aF hS rfl) c57 (cC (aA rfl) (aC hS rfl) uC (es := [.lit (.int .i64 x58.Earliest)]) rfl)),
      fun S hS => aB rfl (aO rfl rfl (aA rfl) (aF hS rfl) c57 (cJ (aA rfl) (aC hS rfl) bL)),
      fun S hS => aB rfl (aO rfl rfl (aA rfl) (aF hS rfl) c57 (bP (aA rfl) (aC hS rfl) rfl rfl)),
      fun S hS => aB rfl (aL rfl (bQ (v := .d (.lit (.bool ((!decide (x58.Earliest = 0)))))) (aA rfl) (aC hS rfl) c57 (aC hS rfl) rfl)),
      fun S hS => aB rfl (aL rfl (aD (v := .d (.lit (.bool (!decide (x58.Earliest = 0))))) (aA rfl) (aC hS rfl) rfl)),
      fun S hS => aB rfl (aO rfl rfl (aA rfl) (aF hS rfl) c62 (aD (v := .d (.sl 6 (r9.1.map aT))) (aA rfl) (aC hS rfl) rfl)),
      fun S hS => aB rfl (aO rfl rfl (aA rfl) (aF hS rfl) c62 (aD (v := .d (.lit (.int .i64 i_0_27))) (aA rfl) (aC hS rfl) rfl)),
      fun S hS => aB rfl (aO rfl rfl (aA rfl) (aF hS rfl) c62 (bU (aA rfl) (aC hS rfl) (aC hS rfl) eE.of (cE aT h64))),
      fun S hS => aB rfl (aO rfl rfl (aA rfl) (aF hS rfl) c62 (cC (aA rfl) (aC hS rfl) uB (es := [.sl 1 (x63.With.map aW)]) rfl)),
      fun S hS => aB rfl (aO rfl rfl (aA rfl) (aF hS rfl) c62 (cJ (aA rfl) (aC hS rfl) eI)),
      fun S hS => aB rfl (aO rfl rfl (aA rfl) (aF hS rfl) c62 (dC (aA rfl) (aC hS rfl) dV.of)),
      fun S hS => aB rfl (aO rfl rfl (aA rfl) (aF hS rfl) c62 (bP (aA rfl) (aC hS rfl) rfl rfl)),
      fun S hS => aB rfl (aL rfl (bQ (v := .d (.lit (.bool ((decide (0 < (x63.With.length : Int))))))) (aA rfl) (aC hS rfl) c62 (aC hS rfl) rfl)),
      fun S hS => aB rfl (aL rfl (aD (v := .d (.lit (.bool (decide (0 < (x63.With.length : Int)))))) (aA rfl) (aC hS rfl) rfl)),
      fun S hS => aB rfl (aO rfl rfl (aA rfl) (aF hS rfl) c67 (aD (v := .d (.sl 6 (r9.1.map aT))) (aA rfl) (aC hS rfl) rfl)),
      fun S hS => aB rfl (aO rfl rfl (aA rfl) (aF hS rfl) c67 (aD (v := .d (.lit (.int .i64 i_0_27))) (aA rfl) (aC hS rfl) rfl)),
      fun S hS => aB rfl (aO rfl rfl (aA rfl) (aF hS rfl) c67 (bU (aA rfl) (aC hS rfl) (aC hS rfl) eE.of (cE aT h69))),
      fun S hS => aB rfl (aO rfl rfl (aA rfl) (aF hS rfl) c67 (cC (aA rfl) (aC hS rfl) nN (es := [.sl 1 (x68.After.map aW)]) rfl)),
      fun S hS => aB rfl (aO rfl rfl (aA rfl) (aF hS rfl) c67 (cJ (aA rfl) (aC hS rfl) eI)),
      fun S hS => aB rfl (aO rfl rfl (aA rfl) (aF hS rfl) c67 (dC (aA rfl) (aC hS rfl) dV.of)),
      fun S hS => aB rfl (aO rfl rfl (aA rfl) (aF hS rfl) c67 (bP (aA rfl) (aC hS rfl) rfl rfl)),
      fun S hS => aB rfl (aL rfl (bQ (v := .d (.lit (.bool ((decide (2 < (x68.After.length : Int))))))) (aA rfl) (aC hS rfl) c67 (aC hS rfl) rfl)), trivial⟩⟩
                  · exact dB (aZ rfl (bC ⟨rfl, rfl, rfl, rfl, rfl, rfl, rfl, trivial⟩))
          ·refine aI ?_
           refine cK rfl (fun c70 => ?_) (fun c70 => ?_)
           ·have h := bB c70 h
            refine aH ?_
            refine aE ?_
            refine tr1 rfl (aK (v := .d (.lit (.bool false))) (aA rfl) rfl rfl) ?_
            refine aI ?_
            have h := Option.some.inj h
            subst h
            refine cT (cR (cU (l := [6]) ⟨rfl, trivial⟩)) ?_
            exact cB ⟨rfl, _, .one _, rfl, rfl⟩
           ·have h := bD c70 h
            refine cF ?_
            refine aH ?_
            refine aE ?_
            refine tr1 rfl (aK (v := .d (.lit (.int .i64 0))) (aA rfl) rfl rfl) ?_
            refine aI ?_
            refine tQ ?_
            refine dY [1, 2, 3, 7, 8, 10, 11] (fun (s71 : Int) => [(14, .d (.lit (.int .i64 s71)))]) (fun (s71 : Int) => [.box b1 0 (bS t_0), .box b32 0 (bY x30)]) (fun (k : Nat) (s71 : Int) => eW (dS l_1 stages_2 r9.1 r9.2.1 t_0 k28) l_1 stages_2 r9.1 r9.2.1 i_0_27 t_0 x30 k s71) (fun _ => rfl) (0) h (bI [0, 1] rfl rfl (aZ rfl (bC ⟨rfl, rfl, rfl, rfl, rfl, rfl, rfl, trivial⟩))) ?_
            rintro k72 k_2_71 h
            simp only [eW] at h
            refine aH ?_
            refine aH ?_
            refine aE ?_
            refine tr1 rfl (aD (v := .d (.lit (.int .i64 k_2_71))) (aA rfl) rfl rfl) ?_
            refine tr1 rfl (aD (v := .d (.sl 6 (r9.1.map aT))) (aA rfl) rfl rfl) ?_
            refine tr1 rfl (aD (v := .d (.lit (.int .i64 i_0_27))) (aA rfl) rfl rfl) ?_
            obtain ⟨x73, h74, h⟩ := bind_some h
            refine tr1 rfl (bU (aA rfl) rfl rfl eE.of (cE aT h74)) ?_
            refine tr1 rfl (cC (aA rfl) rfl nN (es := [.sl 1 (x73.After.map aW)]) rfl) ?_
            refine tr1 rfl (cJ (aA rfl) rfl eI) ?_
            refine tr1 rfl (dC (aA rfl) rfl dV.of) ?_
            refine tr1 rfl (bP (aA rfl) rfl rfl rfl) ?_
            refine aI ?_
            refine cK rfl (fun c75 => ?_) (fun c75 => ?_)
            ·have h := bB c75 h
             refine cF ?_
             refine aH ?_
             refine cW ?_
             refine aH ?_
             refine aE ?_
             refine tr1 rfl (aD (v := .d (.sl 6 (r9.1.map aT))) (aA rfl) rfl rfl) ?_
             refine tr1 rfl (aD (v := .d (.lit (.int .i64 i_0_27))) (aA rfl) rfl rfl) ?_
             obtain ⟨x76, h77, h⟩ := bind_some h
             refine tr1 rfl (bU (aA rfl) rfl rfl eE.of (cE aT h77)) ?_
             refine tr1 rfl (cC (aA rfl) rfl nN (es := [.sl 1 (x76.After.map aW)]) rfl) ?_
             refine tr1 rfl (cJ (aA rfl) rfl eI) ?_
             refine tr1 rfl (aD (v := .d (.lit (.int .i64 k_2_71))) (aA rfl) rfl rfl) ?_
             obtain ⟨x78, h79, h⟩ := bind_some h
             refine tr1 rfl (bU (aA rfl) rfl rfl dV.of (cE aW h79)) ?_
             refine tr1 rfl (cJ (aA rfl) rfl bL) ?_
             refine tr1 rfl (aK (v := .d (.lit (.int .i64 x78))) (aA rfl) rfl rfl) ?_
             refine aI ?_
             refine aH ?_
             obtain ⟨b80, h81, h⟩ := bind_some h
             obtain ⟨b83, h84, h⟩ := bind_some h
             obtain ⟨b88, h89, h⟩ := bind_some h
             refine eS mix 29 [1, 2, 3, 7, 8, 10, 11, 14] [(213, .d (.lit (.bool b88)))] ?_ ?_
             ·refine cA (decide (x78 < 0)) (fun c82 => ?_) (fun c82 => ?_)
              ·have h81 := bB c82 h81
               have h81 := Option.some.inj h81
               subst h81
               have c85 : true = true := rfl
               have h84 := bB c85 h84
               have h84 := Option.some.inj h84
               subst h84
               have c90 : true = true := rfl
               have h89 := bB c90 h89
               have h89 := Option.some.inj h89
               subst h89
               refine ⟨[(185, 0, .d (.lit (.int .i64 x78))), (186, 1, .d (.lit (.bool ((decide (x78 < 0)))))), (187, 2, .d (.lit (.bool ((decide (x78 < 0)))))), (188, 3, .tup []), (189, 4, .tup []), (190, 5, .tup []), (191, 6, .d (.lit (.bool true))), (192, 7, .d (.lit (.bool (true)))), (193, 8, .tup []), (194, 9, .tup []), (195, 10, .tup []), (196, 11, .tup []), (197, 12, .tup []), (198, 13, .tup []), (199, 14, .tup []), (200, 15, .tup []), (201, 16, .tup []), (202, 17, .d (.lit (.bool true))), (203, 18, .d (.lit (.bool (true)))), (204, 19, .tup []), (205, 20, .tup []), (206, 21, .tup []), (207, 22, .tup []), (208, 23, .tup []), (209, 24, .tup []), (210, 25, .tup []), (211, 26, .tup []), (212, 27, .tup []), (213, 28, .d (.lit (.bool true)))], ?_, ?_⟩
               · exact ⟨by kernel_rfl, by kernel_rfl, by kernel_rfl, by kernel_rfl, by kernel_rfl, [([], []), ([0], []), ([1], []), ([2], []), ([2], []), ([2, 3, 4], []), ([2, 5], []), ([6], []), ([7], []), ([7], []), ([7, 8, 9], []), ([7, 10], []), ([7, 11], []), ([7], []), ([7, 13], []), ([7, 14], []), ([7, 12, 15], []), ([7, 16], []), ([17], []), ([18], []), ([18], []), ([18, 19, 20], []), ([18, 21], []), ([18, 22], []), ([18, 23], []), ([18], []), ([18, 25], []), ([18, 24, 26], []), ([18, 27], [])], by kernel_rfl, ⟨fun S hS => aB rfl (aL rfl (aD (v := .d (.lit (.int .i64 x78))) (aA rfl) (aC hS rfl) rfl)),
      fun S hS => aB rfl (aL rfl (bP (aA rfl) (aC hS rfl) rfl rfl)),
      fun S hS => aB rfl (aL rfl (aD (v := .d (.lit (.bool ((decide (x78 < 0)))))) (aA rfl) (aC hS rfl) rfl)),
      fun S hS => aB rfl (aM rfl rfl (aA rfl) rfl (aA rfl) (aF hS rfl) c82),
      fun S hS => aB rfl (aM rfl rfl (aA rfl) rfl (aA rfl) (aF hS rfl) c82),
      fun S hS => aB rfl (aM rfl rfl (aA rfl) rfl (aA rfl) (aF hS rfl) c82),
      fun S hS => aB rfl (aL rfl (bR (v := .d (.lit (.bool true))) (aA rfl) (aC hS rfl) c82 rfl rfl)),
      fun S hS => aB rfl (aL rfl (aD (v := .d (.lit (.bool (true)))) (aA rfl) (aC hS rfl) rfl)),
      fun S hS => aB rfl (aM rfl rfl (aA rfl) rfl (aA rfl) (aF hS rfl) c85),
      fun S hS => aB rfl (aM rfl rfl (aA rfl) rfl (aA rfl) (aF hS rfl) c85),
      fun S hS => aB rfl (aM rfl rfl (aA rfl) rfl (aA rfl) (aF hS rfl) c85),
      fun S hS => aB rfl (aM rfl rfl (aA rfl) rfl (aA rfl) (aF hS rfl) c85),
      fun S hS => aB rfl (aM rfl rfl (aA rfl) rfl (aA rfl) (aF hS rfl) c85),
      fun S hS => aB rfl (aM rfl rfl (aA rfl) rfl (aA rfl) (aF hS rfl) c85),
      fun S hS => aB rfl (aM rfl rfl (aA rfl) rfl (aA rfl) (aF hS rfl) c85),
      fun S hS => aB rfl (aM rfl rfl (aA rfl) rfl (aA rfl) (aF hS rfl) c85),
      fun S hS => aB rfl (aM rfl rfl (aA rfl) rfl (aA rfl) (aF hS rfl) c85),
      fun S hS => aB rfl (aL rfl (bR (v := .d (.lit (.bool true))) (aA rfl) (aC hS rfl) c85 rfl rfl)),
      fun S hS => aB rfl (aL rfl (aD (v := .d (.lit (.bool (true)))) (aA rfl) (aC hS rfl) rfl)),
      fun S hS => aB rfl (aM rfl rfl (aA rfl) rfl (aA rfl) (aF hS rfl) c90),
      fun S hS => aB rfl (aM rfl rfl (aA rfl) rfl (aA rfl) (aF hS rfl) c90),
      fun S hS => aB rfl (aM rfl rfl (aA rfl) rfl (aA rfl) (aF hS rfl) c90),
      fun S hS => aB rfl (aM rfl rfl (aA rfl) rfl (aA rfl) (aF hS rfl) c90),
      fun S hS => aB rfl (aM rfl rfl (aA rfl) rfl (aA rfl) (aF hS rfl) c90),
      fun S hS => aB rfl (aM rfl rfl (aA rfl) rfl (aA rfl) (aF hS rfl) c90),
      fun S hS => aB rfl (aM rfl rfl (aA rfl) rfl (aA rfl) (aF hS rfl) c90),
      fun S hS => aB rfl (aM rfl rfl (aA rfl) rfl (aA rfl) (aF hS rfl) c90),
      fun S hS => aB rfl (aM rfl rfl (aA rfl) rfl (aA rfl) (aF hS rfl) c90),
      fun S hS => aB rfl (aL rfl (bR (v := .d (.lit (.bool true))) (aA rfl) (aC hS rfl) c90 rfl rfl)), trivial⟩⟩
               · exact dB (aZ rfl (bC ⟨rfl, rfl, rfl, rfl, rfl, rfl, rfl, rfl, trivial⟩))
              ·have h81 := bD c82 h81
               have h81 := Option.some.inj h81
               subst h81
               refine cA (decide (i_0_27 ≤ x78)) (fun c85 => ?_) (fun c85 => ?_)
               ·have h84 := bB c85 h84
                have h84 := Option.some.inj h84
                subst h84
                have c90 : true = true := rfl
                have h89 := bB c90 h89
                have h89 := Option.some.inj h89
                subst h89
                refine ⟨[(185, 0, .d (.lit (.int .i64 x78))), (186, 1, .d (.lit (.bool ((decide (x78 < 0)))))), (187, 2, .d (.lit (.bool ((decide (x78 < 0)))))), (188, 3, .d (.lit (.int .i64 x78))), (189, 4, .d (.lit (.int .i64 i_0_27))), (190, 5, .d (.lit (.bool ((decide (i_0_27 ≤ x78)))))), (191, 6, .d (.lit (.bool ((decide (i_0_27 ≤ x78)))))), (192, 7, .d (.lit (.bool (decide (i_0_27 ≤ x78))))), (193, 8, .tup []), (194, 9, .tup []), (195, 10, .tup []), (196, 11, .tup []), (197, 12, .tup []), (198, 13, .tup []), (199, 14, .tup []), (200, 15, .tup []), (201, 16, .tup []), (202, 17, .d (.lit (.bool true))), (203, 18, .d (.lit (.bool (true)))), (204, 19, .tup []), (205, 20, .tup []), (206, 21, .tup []), (207, 22, .tup []), (208, 23, .tup []), (209, 24, .tup []), (210, 25, .tup []), (211, 26, .tup []), (212, 27, .tup []), (213, 28, .d (.lit (.bool true)))], ?_, ?_⟩
                · exact ⟨by kernel_rfl, by kernel_rfl, by kernel_rfl, by kernel_rfl, by kernel_rfl, [([], []), ([0], []), ([1], []), ([2], []), ([2], []), ([2, 3, 4], []), ([2, 5], []), ([6], []), ([7], []), ([7], []), ([7, 8, 9], []), ([7, 10], []), ([7, 11], []), ([7], []), ([7, 13], []), ([7, 14], []), ([7, 12, 15], []), ([7, 16], []), ([17], []), ([18], []), ([18], []), ([18, 19, 20], []), ([18, 21], []), ([18, 22], []), ([18, 23], []), ([18], []), ([18, 25], []), ([18, 24, 26], []), ([18, 27], [])], by kernel_rfl, ⟨fun S hS => aB rfl (aL rfl (aD (v := .d (.lit (.int .i64 x78))) (aA rfl) (aC hS rfl) rfl)),
      fun S hS => aB rfl (aL rfl (bP (aA rfl) (aC hS rfl) rfl rfl)),
      fun S hS => aB rfl (aL rfl (aD (v := .d (.lit (.bool ((decide (x78 < 0)))))) (aA rfl) (aC hS rfl) rfl)),
      fun S hS => aB rfl (aO rfl rfl (aA rfl) (aF hS rfl) c82 (aD (v := .d (.lit (.int .i64 x78))) (aA rfl) (aC hS rfl) rfl)),
      fun S hS => aB rfl (aO rfl rfl (aA rfl) (aF hS rfl) c82 (aD (v := .d (.lit (.int .i64 i_0_27))) (aA rfl) (aC hS rfl) rfl)),
      fun S hS => aB rfl (aO rfl rfl (aA rfl) (aF hS rfl) c82 (bP (aA rfl) (aC hS rfl) (aC hS rfl) rfl)),
      fun S hS => aB rfl (aL rfl (bQ (v := .d (.lit (.bool ((decide (i_0_27 ≤ x78)))))) (aA rfl) (aC hS rfl) c82 (aC hS rfl) rfl)),
      fun S hS => aB rfl (aL rfl (aD (v := .d (.lit (.bool (decide (i_0_27 ≤ x78))))) (aA rfl) (aC hS rfl) rfl)),
      fun S hS => aB rfl (aM rfl rfl (aA rfl) rfl (aA rfl) (aF hS rfl) c85),
      fun S hS => aB rfl (aM rfl rfl (aA rfl) rfl (aA rfl) (aF hS rfl) c85),
      fun S hS => aB rfl (aM rfl rfl (aA rfl) rfl (aA rfl) (aF hS rfl) c85),
      fun S hS => aB rfl (aM rfl rfl (aA rfl) rfl (aA rfl) (aF hS rfl) c85),
      fun S hS => aB rfl (aM rfl rfl (aA rfl) rfl (aA rfl) (aF hS rfl) c85),
      fun S hS => aB rfl (aM rfl rfl (aA rfl) rfl (aA rfl) (aF hS rfl) c85),
      fun S hS => aB rfl (aM rfl rfl (aA rfl) rfl (aA rfl) (aF hS rfl) c85),
      fun S hS => aB rfl (aM rfl rfl (aA rfl) rfl (aA rfl) (aF hS rfl) c85),
      fun S hS => aB rfl (aM rfl rfl (aA rfl) rfl (aA rfl) (aF hS rfl) c85),
      fun S hS => aB rfl (aL rfl (bR (v := .d (.lit (.bool true))) (aA rfl) (aC hS rfl) c85 rfl rfl)),
      fun S hS => aB rfl (aL rfl (aD (v := .d (.lit (.bool (true)))) (aA rfl) (aC hS rfl) rfl)),
      fun S hS => aB rfl (aM rfl rfl (aA rfl) rfl (aA rfl) (aF hS rfl) c90),
      fun S hS => aB rfl (aM rfl rfl (aA rfl) rfl (aA rfl) (aF hS rfl) c90),
      fun S hS => aB rfl (aM rfl rfl (aA rfl) rfl (aA rfl) (aF hS rfl) c90),
      fun S hS => aB rfl (aM rfl rfl (aA rfl) rfl (aA rfl) (aF hS rfl) c90),
      fun S hS => aB rfl (aM rfl rfl (aA rfl) rfl (aA rfl) (aF hS rfl) c90),
      fun S hS => aB rfl (aM rfl rfl (aA rfl) rfl (aA rfl) (aF hS rfl) c90),
      fun S hS => aB rfl (aM rfl rfl (aA rfl) rfl (aA rfl) (aF hS rfl) c90),
      fun S hS => aB rfl (aM rfl rfl (aA rfl) rfl (aA rfl) (aF hS rfl) c90),
      fun S hS => aB rfl (aM rfl rfl (aA rfl) rfl (aA rfl) (aF hS rfl) c90),
      fun S hS => aB rfl (aL rfl (bR (v := .d (.lit (.bool true))) (aA rfl) (aC hS rfl) c90 rfl rfl)), trivial⟩⟩
                · exact dB (aZ rfl (bC ⟨rfl, rfl, rfl, rfl, rfl, rfl, rfl, rfl, trivial⟩))
               ·have h84 := bD c85 h84
                obtain ⟨x86, h87, h84⟩ := bind_some h84
                have h84 := Option.some.inj h84
                subst h84
                refine cA (!decide (x86.Round = (w64 (x30.Round - 1)))) (fun c90 => ?_) (fun c90 => ?_)
                ·have h89 := bB c90 h89
                 have h89 := Option.some.inj h89
                 subst h89
                 refine ⟨[(185, 0, .d (.lit (.int .i64 x78))), (186, 1, .d (.lit (.bool ((decide (x78 < 0)))))), (187, 2, .d (.lit (.bool ((decide (x78 < 0)))))), (188, 3, .d (.lit (.int .i64 x78))), (189, 4, .d (.lit (.int .i64 i_0_27))), (190, 5, .d (.lit (.bool ((decide (i_0_27 ≤ x78)))))), (191, 6, .d (.lit (.bool ((decide (i_0_27 ≤ x78)))))), (192, 7, .d (.lit (.bool (decide (i_0_27 ≤ x78))))), (193, 8, .d (.sl 4 (r9.2.1.map bY))), (194, 9, .d (.lit (.int .i64 x78))), (195, 10, .cp [.lit (.int .i64 x86.Round), .lit (.int .i64 x86.Place), .lit (.int .i64 x86.One), .lit (.int .i64 x86.Two)]), (196, 11, .cp [.lit (.int .i64 x86.Round)]), (197, 12, .d (.lit (.int .i64 x86.Round))), (198, 13, .bp b32 0 0), (199, 14, .d (.lit (.int .i64 x30.Round))), (200, 15, .d (.lit (.int .i64 ((w64 (x30.Round - 1)))))), (201, 16, .d (.lit (.bool ((!decide (x86.Round = (w64 (x30.Round - 1)))))))), (202, 17, .d (.lit (.bool ((!decide (x86.Round = (w64 (x30.Round - 1)))))))), (203, 18, .d (.lit (.bool (!decide (x86.Round = (w64 (x30.Round - 1))))))), (204, 19, .tup []), (205, 20, .tup []), (206, 21, .tup []), (207, 22, .tup []), (208, 23, .tup []), (209, 24, .tup []), (210, 25, .tup []), (211, 26, .tup []), (212, 27, .tup []), (213, 28, .d (.lit (.bool true)))], ?_, ?_⟩
                 · exact ⟨by kernel_rfl, by kernel_rfl, by kernel_rfl, by kernel_rfl, by kernel_rfl, [([], []), ([0], []), ([1], []), ([2], []), ([2], []), ([2, 3, 4], []), ([2, 5], []), ([6], []), ([7], []), ([7], []), ([7, 8, 9], []), ([7, 10], []), ([7, 11], []), ([7], []), ([7, 13], []), ([7, 14], []), ([7, 12, 15], []), ([7, 16], []), ([17], []), ([18], []), ([18], []), ([18, 19, 20], []), ([18, 21], []), ([18, 22], []), ([18, 23], []), ([18], []), ([18, 25], []), ([18, 24, 26], []), ([18, 27], [])], by kernel_rfl, ⟨fun S hS => aB rfl (aL rfl (aD (v := .d (.lit (.int .i64 x78))) (aA rfl) (aC hS rfl) rfl)),
      fun S hS => aB rfl (aL rfl (bP (aA rfl) (aC hS rfl) rfl rfl)),
      fun S hS => aB rfl (aL rfl (aD (v := .d (.lit (.bool ((decide (x78 < 0)))))) (aA rfl) (aC hS rfl) rfl)),
      fun S hS => aB rfl (aO rfl rfl (aA rfl) (aF hS rfl) c82 (aD (v := .d (.lit (.int .i64 x78))) (aA rfl) (aC hS rfl) rfl)),
      fun S hS => aB rfl (aO rfl rfl (aA rfl) (aF hS rfl) c82 (aD (v := .d (.lit (.int .i64 i_0_27))) (aA rfl) (aC hS rfl) rfl)),
      fun S hS => aB rfl (aO rfl rfl (aA rfl) (aF hS rfl) c82 (bP (aA rfl) (aC hS rfl) (aC hS rfl) rfl)),
      fun S hS => aB rfl (aL rfl (bQ (v := .d (.lit (.bool ((decide (i_0_27 ≤ x78)))))) (aA rfl) (aC hS rfl) c82 (aC hS rfl) rfl)),
      fun S hS => aB rfl (aL rfl (aD (v := .d (.lit (.bool (decide (i_0_27 ≤ x78))))) (aA rfl) (aC hS rfl) rfl)),
      fun S hS => aB rfl (aO rfl rfl (aA rfl) (aF hS rfl) c85 (aD (v := .d (.sl 4 (r9.2.1.map bY))) (aA rfl) (aC hS rfl) rfl)),
      fun S hS => aB rfl (aO rfl rfl (aA rfl) (aF hS rfl) c85 (aD (v := .d (.lit (.int .i64 x78))) (aA rfl) (aC hS rfl) rfl)),
      fun S hS => aB rfl (aO rfl rfl (aA rfl) (aF hS rfl) c85 (bU (aA rfl) (aC hS rfl) (aC hS rfl) oI.of (cE bY h87))),
      fun S hS => aB rfl (aO rfl rfl (aA rfl) (aF hS rfl) c85 (cC (aA rfl) (aC hS rfl) dW (es := [.lit (.int .i64 x86.Round)]) rfl)),
      fun S hS => aB rfl (aO rfl rfl (aA rfl) (aF hS rfl) c85 (cJ (aA rfl) (aC hS rfl) bL)),
      fun S hS => aB rfl (aO rfl rfl (aA rfl) (aF hS rfl) c85 (aN (aA rfl) (aC hS rfl) dW)),
      fun S hS => aB rfl (aO rfl rfl (aA rfl) (aF hS rfl) c85 (aQ (aA rfl) (aC hS rfl) (i := 1) rfl rfl bL)),
      fun S hS => aB rfl (aO rfl rfl (aA rfl) (aF hS rfl) c85 (cG (aA rfl) (aC hS rfl) rfl rfl)),
      fun S hS => aB rfl (aO rfl rfl (aA rfl) (aF hS rfl) c85 (bP (aA rfl) (aC hS rfl) (aC hS rfl) rfl)),
      fun S hS => aB rfl (aL rfl (bQ (v := .d (.lit (.bool ((!decide (x86.Round = (w64 (x30.Round - 1)))))))) (aA rfl) (aC hS rfl) c85 (aC hS rfl) rfl)),
      fun S hS => aB rfl (aL rfl (aD (v := .d (.lit (.bool (!decide (x86.Round = (w64 (x30.Round - 1))))))) (aA rfl) (aC hS rfl) rfl)),
      fun S hS => aB rfl (aM rfl rfl (aA rfl) rfl (aA rfl) (aF hS rfl) c90),
      fun S hS => aB rfl (aM rfl rfl (aA rfl) rfl (aA rfl) (aF hS rfl) c90),
      fun S hS => aB rfl (aM rfl rfl (aA rfl) rfl (aA rfl) (aF hS rfl) c90),
      fun S hS => aB rfl (aM rfl rfl (aA rfl) rfl (aA rfl) (aF hS rfl) c90),
      fun S hS => aB rfl (aM rfl rfl (aA rfl) rfl (aA rfl) (aF hS rfl) c90),
      fun S hS => aB rfl (aM rfl rfl (aA rfl) rfl (aA rfl) (aF hS rfl) c90),
      fun S hS => aB rfl (aM rfl rfl (aA rfl) rfl (aA rfl) (aF hS rfl) c90),
      fun S hS => aB rfl (aM rfl rfl (aA rfl) rfl (aA rfl) (aF hS rfl) c90),
      fun S hS => aB rfl (aM rfl rfl (aA rfl) rfl (aA rfl) (aF hS rfl) c90),
      fun S hS => aB rfl (aL rfl (bR (v := .d (.lit (.bool true))) (aA rfl) (aC hS rfl) c90 rfl rfl)), trivial⟩⟩
                 · exact dB (aZ rfl (bC ⟨rfl, rfl, rfl, rfl, rfl, rfl, rfl, rfl, trivial⟩))
                ·have h89 := bD c90 h89
                 obtain ⟨x91, h92, h89⟩ := bind_some h89
                 have h89 := Option.some.inj h89
                 subst h89
                 refine ⟨[(185, 0, .d (.lit (.int .i64 x78))), (186, 1, .d (.lit (.bool ((decide (x78 < 0)))))), (187, 2, .d (.lit (.bool ((decide (x78 < 0)))))), (188, 3, .d (.lit (.int .i64 x78))), (189, 4, .d (.lit (.int .i64 i_0_27))), (190, 5, .d (.lit (.bool ((decide (i_0_27 ≤ x78)))))), (191, 6, .d (.lit (.bool ((decide (i_0_27 ≤ x78)))))), (192, 7, .d (.lit (.bool (decide (i_0_27 ≤ x78))))), (193, 8, .d (.sl 4 (r9.2.1.map bY))), (194, 9, .d (.lit (.int .i64 x78))), (195, 10, .cp [.lit (.int .i64 x86.Round), .lit (.int .i64 x86.Place), .lit (.int .i64 x86.One), .lit (.int .i64 x86.Two)]), (196, 11, .cp [.lit (.int .i64 x86.Round)]), (197, 12, .d (.lit (.int .i64 x86.Round))), (198, 13, .bp b32 0 0), (199, 14, .d (.lit (.int .i64 x30.Round))), (200, 15, .d (.lit (.int .i64 ((w64 (x30.Round - 1)))))), (201, 16, .d (.lit (.bool ((!decide (x86.Round = (w64 (x30.Round - 1)))))))), (202, 17, .d (.lit (.bool ((!decide (x86.Round = (w64 (x30.Round - 1)))))))), (203, 18, .d (.lit (.bool (!decide (x86.Round = (w64 (x30.Round - 1))))))), (204, 19, .d (.sl 4 (r9.2.1.map bY))), (205, 20, .d (.lit (.int .i64 x78))), (206, 21, .cp [.lit (.int .i64 x91.Round), .lit (.int .i64 x91.Place), .lit (.int .i64 x91.One), .lit (.int .i64 x91.Two)]), (207, 22, .cp [.lit (.int .i64 x91.Place)]), (208, 23, .d (.lit (.int .i64 x91.Place))), (209, 24, .d (.lit (.int .i64 ((w64 (x91.Place.tdiv 2)))))), (210, 25, .bp b32 0 1), (211, 26, .d (.lit (.int .i64 x30.Place))), (212, 27, .d (.lit (.bool ((!decide ((w64 (x91.Place.tdiv 2)) = x30.Place)))))), (213, 28, .d (.lit (.bool ((!decide ((w64 (x91.Place.tdiv 2)) = x30.Place))))))], ?_, ?_⟩
                 · exact ⟨by kernel_rfl, by kernel_rfl, by kernel_rfl, by kernel_rfl, by kernel_rfl, [([], []), ([0], []), ([1], []), ([2], []), ([2], []), ([2, 3, 4], []), ([2, 5], []), ([6], []), ([7], []), ([7], []), ([7, 8, 9], []), ([7, 10], []), ([7, 11], []), ([7], []), ([7, 13], []), ([7, 14], []), ([7, 12, 15], []), ([7, 16], []), ([17], []), ([18], []), ([18], []), ([18, 19, 20], []), ([18, 21], []), ([18, 22], []), ([18, 23], []), ([18], []), ([18, 25], []), ([18, 24, 26], []), ([18, 27], [])], by kernel_rfl, ⟨fun S hS => aB rfl (aL rfl (aD (v := .d (.lit (.int .i64 x78))) (aA rfl) (aC hS rfl) rfl)),
      fun S hS => aB rfl (aL rfl (bP (aA rfl) (aC hS rfl) rfl rfl)),
      fun S hS => aB rfl (aL rfl (aD (v := .d (.lit (.bool ((decide (x78 < 0)))))) (aA rfl) (aC hS rfl) rfl)),
      fun S hS => aB rfl (aO rfl rfl (aA rfl) (aF hS rfl) c82 (aD (v := .d (.lit (.int .i64 x78))) (aA rfl) (aC hS rfl) rfl)),
      fun S hS => aB rfl (aO rfl rfl (aA rfl) (aF hS rfl) c82 (aD (v := .d (.lit (.int .i64 i_0_27))) (aA rfl) (aC hS rfl) rfl)),
      fun S hS => aB rfl (aO rfl rfl (aA rfl) (aF hS rfl) c82 (bP (aA rfl) (aC hS rfl) (aC hS rfl) rfl)),
      fun S hS => aB rfl (aL rfl (bQ (v := .d (.lit (.bool ((decide (i_0_27 ≤ x78)))))) (aA rfl) (aC hS rfl) c82 (aC hS rfl) rfl)),
      fun S hS => aB rfl (aL rfl (aD (v := .d (.lit (.bool (decide (i_0_27 ≤ x78))))) (aA rfl) (aC hS rfl) rfl)),
      fun S hS => aB rfl (aO rfl rfl (aA rfl) (aF hS rfl) c85 (aD (v := .d (.sl 4 (r9.2.1.map bY))) (aA rfl) (aC hS rfl) rfl)),
      fun S hS => aB rfl (aO rfl rfl (aA rfl) (aF hS rfl) c85 (aD (v := .d (.lit (.int .i64 x78))) (aA rfl) (aC hS rfl) rfl)),
      fun S hS => aB rfl (aO rfl rfl (aA rfl) (aF hS rfl) c85 (bU (aA rfl) (aC hS rfl) (aC hS rfl) oI.of (cE bY h87))),
      fun S hS => aB rfl (aO rfl rfl (aA rfl) (aF hS rfl) c85 (cC (aA rfl) (aC hS rfl) dW (es := [.lit (.int .i64 x86.Round)]) rfl)),
      fun S hS => aB rfl (aO rfl rfl (aA rfl) (aF hS rfl) c85 (cJ (aA rfl) (aC hS rfl) bL)),
      fun S hS => aB rfl (aO rfl rfl (aA rfl) (aF hS rfl) c85 (aN (aA rfl) (aC hS rfl) dW)),
      fun S hS => aB rfl (aO rfl rfl (aA rfl) (aF hS rfl) c85 (aQ (aA rfl) (aC hS rfl) (i := 1) rfl rfl bL)),
      fun S hS => aB rfl (aO rfl rfl (aA rfl) (aF hS rfl) c85 (cG (aA rfl) (aC hS rfl) rfl rfl)),
      fun S hS => aB rfl (aO rfl rfl (aA rfl) (aF hS rfl) c85 (bP (aA rfl) (aC hS rfl) (aC hS rfl) rfl)),
      fun S hS => aB rfl (aL rfl (bQ (v := .d (.lit (.bool ((!decide (x86.Round = (w64 (x30.Round - 1)))))))) (aA rfl) (aC hS rfl) c85 (aC hS rfl) rfl)),
      fun S hS => aB rfl (aL rfl (aD (v := .d (.lit (.bool (!decide (x86.Round = (w64 (x30.Round - 1))))))) (aA rfl) (aC hS rfl) rfl)),
      fun S hS => aB rfl (aO rfl rfl (aA rfl) (aF hS rfl) c90 (aD (v := .d (.sl 4 (r9.2.1.map bY))) (aA rfl) (aC hS rfl) rfl)),
      fun S hS => aB rfl (aO rfl rfl (aA rfl) (aF hS rfl) c90 (aD (v := .d (.lit (.int .i64 x78))) (aA rfl) (aC hS rfl) rfl)),
      fun S hS => aB rfl (aO rfl rfl (aA rfl) (aF hS rfl) c90 (bU (aA rfl) (aC hS rfl) (aC hS rfl) oI.of (cE bY h92))),
      fun S hS => aB rfl (aO rfl rfl (aA rfl) (aF hS rfl) c90 (cC (aA rfl) (aC hS rfl) rO (es := [.lit (.int .i64 x91.Place)]) rfl)),
      fun S hS => aB rfl (aO rfl rfl (aA rfl) (aF hS rfl) c90 (cJ (aA rfl) (aC hS rfl) bL)),
      fun S hS => aB rfl (aO rfl rfl (aA rfl) (aF hS rfl) c90 (aMb (aA rfl) (aC hS rfl) rfl (by decide))),
      fun S hS => aB rfl (aO rfl rfl (aA rfl) (aF hS rfl) c90 (aN (aA rfl) (aC hS rfl) rO)),
      fun S hS => aB rfl (aO rfl rfl (aA rfl) (aF hS rfl) c90 (aQ (aA rfl) (aC hS rfl) (i := 1) rfl rfl bL)),
      fun S hS => aB rfl (aO rfl rfl (aA rfl) (aF hS rfl) c90 (bP (aA rfl) (aC hS rfl) (aC hS rfl) rfl)),
      fun S hS => aB rfl (aL rfl (bQ (v := .d (.lit (.bool ((!decide ((w64 (x91.Place.tdiv 2)) = x30.Place)))))) (aA rfl) (aC hS rfl) c90 (aC hS rfl) rfl)), trivial⟩⟩
                 · exact dB (aZ rfl (bC ⟨rfl, rfl, rfl, rfl, rfl, rfl, rfl, rfl, trivial⟩))
             ·refine aI ?_
              refine cK rfl (fun c93 => ?_) (fun c93 => ?_)
              ·have h := bB c93 h
               refine aH ?_
               refine aE ?_
               refine tr1 rfl (aK (v := .d (.lit (.bool false))) (aA rfl) rfl rfl) ?_
               refine aI ?_
               have h := Option.some.inj h
               subst h
               refine cT (cR (cU (l := [6]) ⟨rfl, trivial⟩)) ?_
               exact cB ⟨rfl, _, .one _, rfl, rfl⟩
              ·have h := bD c93 h
               refine fB ?_
               refine aE ?_
               refine tr1 rfl (aD (v := .d (.lit (.int .i64 k_2_71))) (aA rfl) rfl rfl) ?_
               refine tr1 rfl (cG (aA rfl) rfl rfl rfl) ?_
               refine tr1 rfl (aK (v := .d (.lit (.int .i64 ((w64 (k_2_71 + 1)))))) (aA rfl) rfl rfl) ?_
               refine aI ?_
               exact ⟨(w64 (k_2_71 + 1)), h, bI [0, 1] rfl rfl (aZ rfl (bC ⟨rfl, rfl, rfl, rfl, rfl, rfl, rfl, trivial⟩))⟩
            ·have h := bD c75 h
             refine dO ?_
             refine .inl ⟨rfl, ?_⟩
             simp only [iM] at h
             simp only [mK] at h
             refine aE ?_
             refine tr1 rfl (aD (v := .d (.lit (.int .i64 i_0_27))) (aA rfl) rfl rfl) ?_
             refine tr1 rfl (cG (aA rfl) rfl rfl rfl) ?_
             refine tr1 rfl (aK (v := .d (.lit (.int .i64 ((w64 (i_0_27 + 1)))))) (aA rfl) rfl rfl) ?_
             refine aI ?_
             exact ⟨(w64 (i_0_27 + 1)), h, bI [0] rfl rfl (aZ rfl (bC ⟨rfl, rfl, rfl, rfl, rfl, trivial⟩))⟩
         ·have h := bD c29 h
          refine dO ?_
          refine .inl ⟨rfl, ?_⟩
          simp only [gF] at h
          refine aH ?_
          refine aH ?_
          refine aE ?_
          refine tr1 rfl (aK (v := .d (.lit (.int .i64 0))) (aA rfl) rfl rfl) ?_
          refine aI ?_
          refine cW ?_
          refine dY [1, 2, 3, 7] (fun (s94 : Int) => [(16, .d (.lit (.int .i64 s94)))]) (fun (s94 : Int) => [.box b1 0 (bS t_0)]) (fun (k : Nat) (s94 : Int) => fL l_1 stages_2 r9.1 t_0 k s94) (fun _ => rfl) (0) h (bI [0] rfl rfl (aZ rfl (bC ⟨rfl, rfl, rfl, rfl, trivial⟩))) ?_
          rintro k95 k_4_94 h
          simp only [fL] at h
          refine aH ?_
          refine aH ?_
          refine aE ?_
          refine tr1 rfl (aD (v := .d (.lit (.int .i64 k_4_94))) (aA rfl) rfl rfl) ?_
          refine tr1 rfl (aD (v := .d (.sl 5 (l_1.map aY))) (aA rfl) rfl rfl) ?_
          refine tr1 rfl (dC (aA rfl) rfl vN.of) ?_
          refine tr1 rfl (bP (aA rfl) rfl rfl rfl) ?_
          refine aI ?_
          refine cK rfl (fun c96 => ?_) (fun c96 => ?_)
          ·have h := bB c96 h
           refine cF ?_
           refine aH ?_
           refine cW ?_
           refine aH ?_
           obtain ⟨x97, h98, h⟩ := bind_some h
           obtain ⟨r99, h100, h⟩ := bind_some h
           refine eS mix 12 [1, 2, 3, 7, 16] [(17, .d (.sl 6 (r99.1.map aT))), (229, .d (.lit (.int .i64 r99.2.2)))] ?_ ?_
           ·refine ⟨[(221, 0, .agg (bS t_0)), (222, 1, .d (.sl 5 (l_1.map aY))), (223, 2, .d (.lit (.int .i64 k_4_94))), (224, 3, .d (.sl 5 (x97.map aY))), (225, 4, .d (.sl 3 (stages_2.map cD))), (226, 5, .tup [.d (.sl 6 (r99.1.map aT)), .d (.sl 4 (r99.2.1.map bY)), .d (.lit (.int .i64 r99.2.2))]), (220, 6, .tup [.d (.sl 6 (r99.1.map aT)), .d (.sl 4 (r99.2.1.map bY)), .d (.lit (.int .i64 r99.2.2))]), (227, 7, .d (.sl 6 (r99.1.map aT))), (228, 8, .d (.sl 4 (r99.2.1.map bY))), (229, 9, .d (.lit (.int .i64 r99.2.2))), (17, 10, .d (.sl 6 (r99.1.map aT))), (18, 11, .d (.sl 4 (r99.2.1.map bY)))], ?_, ?_⟩
            · exact ⟨by kernel_rfl, by kernel_rfl, by kernel_rfl, by kernel_rfl, by kernel_rfl, [([], []), ([], []), ([], []), ([1, 2], []), ([], []), ([0, 3, 4], []), ([5], []), ([6], []), ([6], []), ([6], []), ([7], []), ([8], [])], by kernel_rfl, ⟨fun S hS => aB rfl (aL rfl (bO (aA rfl) (aC hS rfl) (i := 0) rfl kQ (es := (bS t_0)) rfl rfl)),
      fun S hS => aB rfl (aL rfl (aD (v := .d (.sl 5 (l_1.map aY))) (aA rfl) (aC hS rfl) rfl)),
      fun S hS => aB rfl (aL rfl (aD (v := .d (.lit (.int .i64 k_4_94))) (aA rfl) (aC hS rfl) rfl)),
      fun S hS => aB rfl (aL rfl (aDb (aA rfl) vN.of (aC hS rfl) rfl (bo (aC hS rfl)) (aHr aY h98))),
      fun S hS => aB rfl (aL rfl (aD (v := .d (.sl 3 (stages_2.map cD))) (aA rfl) (aC hS rfl) rfl)),
      fun S hS => aB rfl (aL rfl (iX (aA rfl) (.func _ _ Try.call42) (ev2 (aC hS rfl) (ev2 (aC hS rfl) (ev2 (aC hS rfl) evn))) rfl (aAy _ _ _ h100))),
      fun S hS => aB rfl (aL rfl (aD (v := .tup [.d (.sl 6 (r99.1.map aT)), .d (.sl 4 (r99.2.1.map bY)), .d (.lit (.int .i64 r99.2.2))]) (aA rfl) (aC hS rfl) rfl)),
      fun S hS => aB rfl (aL rfl (bZ (aA rfl) (aC hS rfl) rfl)),
      fun S hS => aB rfl (aL rfl (bZ (aA rfl) (aC hS rfl) rfl)),
      fun S hS => aB rfl (aL rfl (bZ (aA rfl) (aC hS rfl) rfl)),
      fun S hS => aB rfl (aL rfl (aK (v := .d (.sl 6 (r99.1.map aT))) (aA rfl) (aC hS rfl) rfl)),
      fun S hS => aB rfl (aL rfl (aK (v := .d (.sl 4 (r99.2.1.map bY))) (aA rfl) (aC hS rfl) rfl)), trivial⟩⟩
            · exact dB (aZ rfl (aZ rfl (bC ⟨rfl, rfl, rfl, rfl, rfl, trivial⟩)))
           ·refine tr1 rfl (aK (v := .d (.lit (.int .i64 r99.2.2))) (aA rfl) rfl rfl) ?_
            refine aI ?_
            refine aH ?_
            refine aE ?_
            refine tr1 rfl (aD (v := .d (.lit (.int .i64 r99.2.2))) (aA rfl) rfl rfl) ?_
            refine tr1 rfl (bP (aA rfl) rfl rfl rfl) ?_
            refine tr1 rfl (aD (v := .d (.lit (.bool ((decide (r99.2.2 = 0)))))) (aA rfl) rfl rfl) ?_
            obtain ⟨b101, h102, h⟩ := bind_some h
            refine dD 6 [1, 2, 3, 7, 16] 238 b101 ?_ ?_
            ·refine cA (decide (r99.2.2 = 0)) (fun c104 => ?_) (fun c104 => ?_)
             ·have h102 := bB c104 h102
              refine aU rfl rfl (aA rfl) rfl c104 (aD (v := .d (.sl 6 (r99.1.map aT))) (aA rfl) rfl rfl) ?_
              refine aU rfl rfl (aA rfl) rfl c104 (dC (aA rfl) rfl eE.of) ?_
              refine aU rfl rfl (aA rfl) rfl c104 (aD (v := .d (.sl 6 (r9.1.map aT))) (aA rfl) rfl rfl) ?_
              refine aU rfl rfl (aA rfl) rfl c104 (dC (aA rfl) rfl eE.of) ?_
              refine aU rfl rfl (aA rfl) rfl c104 (bP (aA rfl) rfl rfl rfl) ?_
              refine tr1 rfl (bR (v := .d (.lit (.bool ((decide ((r99.1.length : Int) < (r9.1.length : Int))))))) (aA rfl) rfl c104 rfl rfl) ?_
              have h102 := Option.some.inj h102
              subst h102
              refine aI (bT rfl ⟨rfl, rfl, rfl, rfl, rfl, trivial⟩ rfl)
             ·have h102 := bD c104 h102
              refine aX rfl rfl (aA rfl) rfl (aA rfl) rfl c104 ?_
              refine aX rfl rfl (aA rfl) rfl (aA rfl) rfl c104 ?_
              refine aX rfl rfl (aA rfl) rfl (aA rfl) rfl c104 ?_
              refine aX rfl rfl (aA rfl) rfl (aA rfl) rfl c104 ?_
              refine aX rfl rfl (aA rfl) rfl (aA rfl) rfl c104 ?_
              refine tr1 rfl (bQ (v := .d (.lit (.bool false))) (aA rfl) rfl c104 rfl rfl) ?_
              have h102 := Option.some.inj h102
              subst h102
              refine aI (bT rfl ⟨rfl, rfl, rfl, rfl, rfl, trivial⟩ rfl)
            ·refine aI ?_
             refine cK rfl (fun c103 => ?_) (fun c103 => ?_)
             ·have h := bB c103 h
              refine aH ?_
              refine aE ?_
              refine tr1 rfl (aK (v := .d (.lit (.bool false))) (aA rfl) rfl rfl) ?_
              refine aI ?_
              have h := Option.some.inj h
              subst h
              refine cT (cR (cU (l := [6]) ⟨rfl, trivial⟩)) ?_
              exact cB ⟨rfl, _, .one _, rfl, rfl⟩
             ·have h := bD c103 h
              refine fB ?_
              refine aE ?_
              refine tr1 rfl (aD (v := .d (.lit (.int .i64 k_4_94))) (aA rfl) rfl rfl) ?_
              refine tr1 rfl (cG (aA rfl) rfl rfl rfl) ?_
              refine tr1 rfl (aK (v := .d (.lit (.int .i64 ((w64 (k_4_94 + 1)))))) (aA rfl) rfl rfl) ?_
              refine aI ?_
              exact ⟨(w64 (k_4_94 + 1)), h, bI [0] rfl rfl (aZ rfl (bC ⟨rfl, rfl, rfl, rfl, trivial⟩))⟩
          ·have h := bD c96 h
           refine dO ?_
           refine .inl ⟨rfl, ?_⟩
           simp only [mL] at h
           refine aH ?_
           refine aE ?_
           obtain ⟨r105, h106, h⟩ := bind_some h
           refine tr1 rfl (cQ (aA rfl) (.func _ _ Try.call16) rfl rfl (BVs.refl _ _) (oL h106) rfl) ?_
           refine tr1 rfl (aK (v := .d (.lit (.bool r105))) (aA rfl) rfl rfl) ?_
           refine aI ?_
           have h := Option.some.inj h
           subst h
           refine cT (cR (cU (l := [6]) ⟨rfl, trivial⟩)) ?_
           exact cB ⟨rfl, _, .one _, rfl, rfl⟩

end Go.Am
