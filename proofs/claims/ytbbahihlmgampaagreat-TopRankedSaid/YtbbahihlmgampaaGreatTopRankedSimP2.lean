/- The functions compute what the shallow ones say: printed by program. -/
import Derived.Test.YtbbahihlmgampaaGreatTopRankedSimP1
namespace Go.Am
open Go.Proofs
open Go.Proofs.Tryz
set_option maxRecDepth 100000
set_option maxHeartbeats 40000000

theorem aFu (g : aN) {r : Bool} (h : qN g = some r) : Fn Tryz.prog 66 [.agg (aK g)] (.b r) := by
 unfold qN at h;refine oT [.tmp 2] func66 results66 ntmps66 ?_;refine aD (aB ?_);refine bA rfl (eN (v := .agg (aK g)) (aI rfl) rfl rfl rfl) ?_;rintro _ ⟨b1, rfl⟩;refine ta Z12 (aC (aD (aB (ta (.i 0) (ta (.i 0) (aC (aD (aD (aB (tfl 0 rfl rfl yT rfl aS (aC (bF ?_))))))))))));refine aD (aB (to (scm rfl rfl rfl) (ta (.b (decide (g.Kind = 1))) (aC ?_))));refine tih h (fun c2 h => ?_) (fun c2 h => ?_)
 ·refine aB (ta (.i 9999) ?_);refine cM ?_;refine aD (aB (tfl 0 rfl rfl mA rfl aS ?_));obtain ⟨r3, h4, h⟩ := bns h;refine to (scr call43 (cJ _ _ _ h4)) (tm (.b r3) ?_);obtain ⟨b5, h6, h⟩ := bns h;refine aZ 4 [1, 3, 4] 22 b5 ?_ ?_
  ·refine bch h6 (fun j h6 => ?_) (fun j h6 => ?_)
   ·refine tkl 0 j rfl rfl fB rfl aS ?_;obtain ⟨X, Y, h6⟩ := bns h6;refine tk j (scr call43 (cJ _ _ _ Y)) (to (spt (.b X) j) ?_);obtain rfl := sIn h6;refine aC (aQ rfl ⟨rfl, rfl, rfl, trivial⟩ rfl)
   ·refine tp j (tp j (tp j (to (spf Z12 j) ?_)));obtain rfl := sIn h6;refine aC (aQ rfl ⟨rfl, rfl, rfl, trivial⟩ rfl)
  ·refine tm (.b b5) ?_;obtain ⟨b7, h8, h⟩ := bns h;refine aZ 4 [1, 3, 4] 27 b7 ?_ ?_
   ·refine bch h8 (fun k h8 => ?_) (fun k h8 => ?_)
    ·refine tkl 0 k rfl rfl gV rfl aS ?_;obtain ⟨Z, a0, h8⟩ := bns h8;refine tk k (scr call43 (cJ _ _ _ a0)) (to (spt (.b Z) k) ?_);obtain rfl := sIn h8;refine aC (aQ rfl ⟨rfl, rfl, rfl, trivial⟩ rfl)
    ·refine tp k (tp k (tp k (to (spf Z12 k) ?_)));obtain rfl := sIn h8;refine aC (aQ rfl ⟨rfl, rfl, rfl, trivial⟩ rfl)
   ·refine tm (.b b7) ?_;obtain ⟨b9, w, h⟩ := bns h;refine aZ 6 [] 34 b9 ?_ ?_
    ·refine bch w (fun a w => ?_) (fun a w => ?_)
     ·refine tkl 0 a rfl rfl oA rfl aS (tk a (sm (.i 0)) (tk a (sm (.i 9999)) ?_));obtain ⟨a1, a2, w⟩ := bns w;refine tk a (scr call43 (cJ _ _ _ a2)) (to (spt (.b a1) a) ?_);obtain rfl := sIn w;refine aC (aQ rfl trivial rfl)
     ·refine tp a (tp a (tp a (tp a (tp a (to (spf Z12 a) ?_)))));obtain rfl := sIn w;refine aC (aQ rfl trivial rfl)
    ·refine ta (.b b9) (aC ?_);obtain rfl := sIn h;refine bL (bG (bI (l := [2]) ⟨rfl, trivial⟩)) ?_;exact rt
 ·refine aD (aB (to (scm rfl rfl rfl) (ta (.b (Z76 g)) (aC ?_))));refine tih h (fun a3 h => ?_) (fun a3 h => ?_)
  ·refine aB (ta (.i 1) (ta (.i 9999) ?_));refine cM ?_;refine aD (aB (tfl 0 rfl rfl mA rfl aS ?_));obtain ⟨a4, a5, h⟩ := bns h;refine to (scr call43 (cJ _ _ _ a5)) (tm (.b a4) ?_);obtain ⟨K, x, h⟩ := bns h;refine aZ 4 [1, 3, 4] 22 K ?_ ?_
   ·refine bch x (fun m x => ?_) (fun m x => ?_)
    ·refine tkl 0 m rfl rfl fB rfl aS ?_;obtain ⟨a6, a7, x⟩ := bns x;refine tk m (scr call43 (cJ _ _ _ a7)) (to (spt (.b a6) m) ?_);obtain rfl := sIn x;refine aC (aQ rfl ⟨rfl, rfl, rfl, trivial⟩ rfl)
    ·refine tp m (tp m (tp m (to (spf Z12 m) ?_)));obtain rfl := sIn x;refine aC (aQ rfl ⟨rfl, rfl, rfl, trivial⟩ rfl)
   ·refine tm (.b K) ?_;obtain ⟨L, y, h⟩ := bns h;refine aZ 4 [1, 3, 4] 27 L ?_ ?_
    ·refine bch y (fun n y => ?_) (fun n y => ?_)
     ·refine tkl 0 n rfl rfl gV rfl aS ?_;obtain ⟨a8, a9, y⟩ := bns y;refine tk n (scr call43 (cJ _ _ _ a9)) (to (spt (.b a8) n) ?_);obtain rfl := sIn y;refine aC (aQ rfl ⟨rfl, rfl, rfl, trivial⟩ rfl)
     ·refine tp n (tp n (tp n (to (spf Z12 n) ?_)));obtain rfl := sIn y;refine aC (aQ rfl ⟨rfl, rfl, rfl, trivial⟩ rfl)
    ·refine tm (.b L) ?_;obtain ⟨M, z, h⟩ := bns h;refine aZ 6 [] 34 M ?_ ?_
     ·refine bch z (fun c z => ?_) (fun c z => ?_)
      ·refine tkl 0 c rfl rfl oA rfl aS (tk c (sm (.i 1)) (tk c (sm (.i 9999)) ?_));obtain ⟨b0, b2, z⟩ := bns z;refine tk c (scr call43 (cJ _ _ _ b2)) (to (spt (.b b0) c) ?_);obtain rfl := sIn z;refine aC (aQ rfl trivial rfl)
      ·refine tp c (tp c (tp c (tp c (tp c (to (spf Z12 c) ?_)))));obtain rfl := sIn z;refine aC (aQ rfl trivial rfl)
     ·refine ta (.b M) (aC ?_);obtain rfl := sIn h;refine bL (bG (bI (l := [2]) ⟨rfl, trivial⟩)) ?_;exact rt
  ·refine aD (aD (aB (to (scm rfl rfl rfl) (ta (Z72 g) (aC ?_)))));refine tih h (fun b3 h => ?_) (fun b3 h => ?_)
   ·refine aV ?_;refine tih h (fun b4 h => ?_) (fun b4 h => ?_)
    ·refine cK ?_;refine aD (aB (tfl 0 rfl rfl mA rfl aS ?_));obtain ⟨b6, b8, h⟩ := bns h;refine to (scr call43 (cJ _ _ _ b8)) (tm (.b b6) ?_);obtain ⟨N, A, h⟩ := bns h;refine aZ 4 [1, 3, 4] 22 N ?_ ?_
     ·refine bch A (fun o A => ?_) (fun o A => ?_)
      ·refine tkl 0 o rfl rfl fB rfl aS ?_;obtain ⟨c0, c1, A⟩ := bns A;refine tk o (scr call43 (cJ _ _ _ c1)) (to (spt (.b c0) o) ?_);obtain rfl := sIn A;refine aC (aQ rfl ⟨rfl, rfl, rfl, trivial⟩ rfl)
      ·refine tp o (tp o (tp o (to (spf Z12 o) ?_)));obtain rfl := sIn A;refine aC (aQ rfl ⟨rfl, rfl, rfl, trivial⟩ rfl)
     ·refine tm (.b N) ?_;obtain ⟨O, B, h⟩ := bns h;refine aZ 4 [1, 3, 4] 27 O ?_ ?_
      ·refine bch B (fun p B => ?_) (fun p B => ?_)
       ·refine tkl 0 p rfl rfl gV rfl aS ?_;obtain ⟨c3, c4, B⟩ := bns B;refine tk p (scr call43 (cJ _ _ _ c4)) (to (spt (.b c3) p) ?_);obtain rfl := sIn B;refine aC (aQ rfl ⟨rfl, rfl, rfl, trivial⟩ rfl)
       ·refine tp p (tp p (tp p (to (spf Z12 p) ?_)));obtain rfl := sIn B;refine aC (aQ rfl ⟨rfl, rfl, rfl, trivial⟩ rfl)
      ·refine tm (.b O) ?_;obtain ⟨P, C, h⟩ := bns h;refine aZ 6 [] 34 P ?_ ?_
       ·refine bch C (fun d C => ?_) (fun d C => ?_)
        ·refine tkl 0 d rfl rfl oA rfl aS (tk d (sm (.i 0)) (tk d (sm (.i 0)) ?_));obtain ⟨c5, c6, C⟩ := bns C;refine tk d (scr call43 (cJ _ _ _ c6)) (to (spt (.b c5) d) ?_);obtain rfl := sIn C;refine aC (aQ rfl trivial rfl)
        ·refine tp d (tp d (tp d (tp d (tp d (to (spf Z12 d) ?_)))));obtain rfl := sIn C;refine aC (aQ rfl trivial rfl)
       ·refine ta (.b P) (aC ?_);obtain rfl := sIn h;refine bL (bG (bI (l := [2]) ⟨rfl, trivial⟩)) ?_;exact rt
    ·refine aD (aB (ta Z12 (aC ?_)));obtain rfl := sIn h;refine bL (bG (bI (l := [2]) ⟨rfl, trivial⟩)) ?_;exact rt
   ·refine aD (aB (to (scm rfl rfl rfl) (ta (Z73 g) (aC ?_))));refine tih h (fun c7 h => ?_) (fun c7 h => ?_)
    ·refine aV ?_;refine tih h (fun c8 h => ?_) (fun c8 h => ?_)
     ·refine cK ?_;refine aD (aB (tfl 0 rfl rfl mA rfl aS ?_));obtain ⟨c9, d0, h⟩ := bns h;refine to (scr call43 (cJ _ _ _ d0)) (tm (.b c9) ?_);obtain ⟨Q, E, h⟩ := bns h;refine aZ 4 [1, 3, 4] 22 Q ?_ ?_
      ·refine bch E (fun q E => ?_) (fun q E => ?_)
       ·refine tkl 0 q rfl rfl fB rfl aS ?_;obtain ⟨d1, d2, E⟩ := bns E;refine tk q (scr call43 (cJ _ _ _ d2)) (to (spt (.b d1) q) ?_);obtain rfl := sIn E;refine aC (aQ rfl ⟨rfl, rfl, rfl, trivial⟩ rfl)
       ·refine tp q (tp q (tp q (to (spf Z12 q) ?_)));obtain rfl := sIn E;refine aC (aQ rfl ⟨rfl, rfl, rfl, trivial⟩ rfl)
      ·refine tm (.b Q) ?_;obtain ⟨S, F, h⟩ := bns h;refine aZ 4 [1, 3, 4] 27 S ?_ ?_
       ·refine bch F (fun s F => ?_) (fun s F => ?_)
        ·refine tkl 0 s rfl rfl gV rfl aS ?_;obtain ⟨d3, d4, F⟩ := bns F;refine tk s (scr call43 (cJ _ _ _ d4)) (to (spt (.b d3) s) ?_);obtain rfl := sIn F;refine aC (aQ rfl ⟨rfl, rfl, rfl, trivial⟩ rfl)
        ·refine tp s (tp s (tp s (to (spf Z12 s) ?_)));obtain rfl := sIn F;refine aC (aQ rfl ⟨rfl, rfl, rfl, trivial⟩ rfl)
       ·refine tm (.b S) ?_;obtain ⟨T, G, h⟩ := bns h;refine aZ 6 [] 34 T ?_ ?_
        ·refine bch G (fun e G => ?_) (fun e G => ?_)
         ·refine tkl 0 e rfl rfl oA rfl aS (tk e (sm (.i 0)) (tk e (sm (.i 0)) ?_));obtain ⟨d5, d6, G⟩ := bns G;refine tk e (scr call43 (cJ _ _ _ d6)) (to (spt (.b d5) e) ?_);obtain rfl := sIn G;refine aC (aQ rfl trivial rfl)
         ·refine tp e (tp e (tp e (tp e (tp e (to (spf Z12 e) ?_)))));obtain rfl := sIn G;refine aC (aQ rfl trivial rfl)
        ·refine ta (.b T) (aC ?_);obtain rfl := sIn h;refine bL (bG (bI (l := [2]) ⟨rfl, trivial⟩)) ?_;exact rt
     ·refine aD (aB (ta Z12 (aC ?_)));obtain rfl := sIn h;refine bL (bG (bI (l := [2]) ⟨rfl, trivial⟩)) ?_;exact rt
    ·refine aB (to (scm rfl rfl rfl) (ta (Z74 g) (aC ?_)));refine tih h (fun d7 h => ?_) (fun d7 h => ?_)
     ·refine cK ?_;refine aD (aB (tfl 0 rfl rfl mA rfl aS ?_));obtain ⟨d8, d9, h⟩ := bns h;refine to (scr call43 (cJ _ _ _ d9)) (tm (.b d8) ?_);obtain ⟨U, H, h⟩ := bns h;refine aZ 4 [1, 3, 4] 22 U ?_ ?_
      ·refine bch H (fun t H => ?_) (fun t H => ?_)
       ·refine tkl 0 t rfl rfl fB rfl aS ?_;obtain ⟨e0, e1, H⟩ := bns H;refine tk t (scr call43 (cJ _ _ _ e1)) (to (spt (.b e0) t) ?_);obtain rfl := sIn H;refine aC (aQ rfl ⟨rfl, rfl, rfl, trivial⟩ rfl)
       ·refine tp t (tp t (tp t (to (spf Z12 t) ?_)));obtain rfl := sIn H;refine aC (aQ rfl ⟨rfl, rfl, rfl, trivial⟩ rfl)
      ·refine tm (.b U) ?_;obtain ⟨V, I, h⟩ := bns h;refine aZ 4 [1, 3, 4] 27 V ?_ ?_
       ·refine bch I (fun u I => ?_) (fun u I => ?_)
        ·refine tkl 0 u rfl rfl gV rfl aS ?_;obtain ⟨e2, e3, I⟩ := bns I;refine tk u (scr call43 (cJ _ _ _ e3)) (to (spt (.b e2) u) ?_);obtain rfl := sIn I;refine aC (aQ rfl ⟨rfl, rfl, rfl, trivial⟩ rfl)
        ·refine tp u (tp u (tp u (to (spf Z12 u) ?_)));obtain rfl := sIn I;refine aC (aQ rfl ⟨rfl, rfl, rfl, trivial⟩ rfl)
       ·refine tm (.b V) ?_;obtain ⟨W, J, h⟩ := bns h;refine aZ 6 [] 34 W ?_ ?_
        ·refine bch J (fun f J => ?_) (fun f J => ?_)
         ·refine tkl 0 f rfl rfl oA rfl aS (tk f (sm (.i 0)) (tk f (sm (.i 0)) ?_));obtain ⟨e4, e5, J⟩ := bns J;refine tk f (scr call43 (cJ _ _ _ e5)) (to (spt (.b e4) f) ?_);obtain rfl := sIn J;refine aC (aQ rfl trivial rfl)
         ·refine tp f (tp f (tp f (tp f (tp f (to (spf Z12 f) ?_)))));obtain rfl := sIn J;refine aC (aQ rfl trivial rfl)
        ·refine ta (.b W) (aC ?_);obtain rfl := sIn h;refine bL (bG (bI (l := [2]) ⟨rfl, trivial⟩)) ?_;exact rt
     ·refine aD (aB (ta Z12 (aC ?_)));obtain rfl := sIn h;refine bL (bG (bI (l := [2]) ⟨rfl, trivial⟩)) ?_;exact rt

theorem aKc (t : bE) (o : List aN) {r : Int} (h : tK t o = some r) : Fn Tryz.prog 42 [.agg (bJ t), .d (Z28 o)] (.i r) := by
 unfold tK at h;refine oT [.tmp 4] func42 results42 ntmps42 ?_;refine aD (aB ?_);refine bA rfl (eN (v := .agg (bJ t)) (aI rfl) rfl rfl rfl) ?_;rintro _ ⟨b1, rfl⟩;refine ta (.i 0) (aC (aD (aD (aB (to (sla 0 (bJ t) rfl rfl rI) ?_)))));obtain ⟨r2, h3, h⟩ := bns h;refine to (scr call65 (aGt _ h3)) (to (sn rfl) (aC ?_));refine tih h (fun c4 h => ?_) (fun c4 h => ?_)
 ·refine aD (aB (ta (.i 50) (aC ?_)));obtain rfl := sIn h;refine bL (bG (bI (l := [4]) ⟨rfl, trivial⟩)) ?_;exact rt
 ·refine aV (aD (aD (aB (tm (Z70 o) (to (sle rfl gS.of) (to (scm rfl rfl rfl) (aC ?_)))))));refine tih h (fun c5 h => ?_) (fun c5 h => ?_)
  ·refine aD (aB (ta (.i 51) (aC ?_)));obtain rfl := sIn h;refine bL (bG (bI (l := [4]) ⟨rfl, trivial⟩)) ?_;exact rt
  ·refine aV (aD (aB ?_));refine bA rfl (aJz (aI rfl)) ?_;rintro _ ⟨r6, rfl⟩;refine ta (.d (.lit (.map (some r6)))) (aC (aD (aD (aB (tm (Z70 o) (to (sle rfl gS.of) (tm (.i 0) (aC (bF ?_)))))))));refine bY (S := Int × (List (Int × aN)) × (List Nat) × Nat) [5, 17, 18] (fun s7 => [(19, .i s7.1)]) (fun s7 => [.map r6 (s7.2.1.map fun p : Int × aN => (VI p.1, (fun v : aN => AV.agg (aK v)) p.2)) s7.2.2.1 s7.2.2.2]) (fun k s7 => lN o (o.length : Int) k s7.1 s7.2.1) (fun _ => rfl) (0, ([] : List (Int × aN)), [], 0) h (aR [1] rfl rfl (aL rfl (aP ⟨rfl, rfl, rfl, trivial⟩))) ?_;rintro G ⟨q, c, x, u⟩ h;simp only [lN] at h;refine aD (aB (to (scm rfl rfl rfl) (aC (aD ?_))));refine tih h (fun y h => ?_) (fun y h => ?_)
   ·refine aV (aD (bF (aD (aB ?_))));obtain ⟨e, A, h⟩ := bns h;refine to (six rfl rfl gS.of (bC aK A)) (to (aAl (aK e) rfl lL) ?_);refine bA rfl (eA (zs := [.j 0, .j 0, .j 0, .j 0, .j 0]) (aI rfl) zeroValue41 rfl rfl) ?_;rintro _ ⟨H, rfl⟩;refine to (sst 1 rfl rfl sizeOf41 (aK e)) (aC (aD (aD (aB (tm (.d (.lit (.map (some r6)))) (tfl 1 rfl rfl mA rfl aS (to (aPm (av := (fun v : aN => AV.agg (aK v))) (l := c) (z := Z65) (a := e.Id) (m := 0) (aI rfl) kL underlying114 zeroValue41 (fun _ _ => .agg (oM rfl)) rfl rfl rfl rfl (eE (kv := VI) e.Id)) ?_)))))));refine tm (.tup [.agg (aK (aH e.Id Z65 c)), .b (lS e.Id c)]) (to (sex rfl rfl) (to (sex rfl rfl) ?_));refine bA rfl (eA (zs := [.j 0, .j 0, .j 0, .j 0, .j 0]) (aI rfl) zeroValue41 rfl rfl) ?_;rintro _ ⟨I, rfl⟩;refine to (sst 2 rfl rfl sizeOf41 (aK (aH e.Id Z65 c))) (ta (.b (lS e.Id c)) (aC (aD (aB (to (sla 1 (aK e) rfl rfl lL) ?_)))));obtain ⟨B, C, h⟩ := bns h;refine to (scr call66 (aFu _ C)) (to (sn rfl) (tm (.b (!B)) ?_));obtain ⟨E, j, h⟩ := bns h;refine aZ 7 [5, 7, 17, 18, 19] 40 E ?_ ?_
    ·refine bch j (fun f j => ?_) (fun f j => ?_)
     ·refine tp f (tp f (tq (tq (tq (tp f (to (spt Z44 f) ?_))))));obtain rfl := sIn j;refine aC (aQ rfl ⟨rfl, rfl, rfl, rfl, rfl, trivial⟩ rfl)
     ·refine tk f (sm (.b (lS e.Id c))) (tk f (sm (.b (lS e.Id c))) ?_);obtain ⟨w, s, j⟩ := bns j;refine aZ 4 [5, 7, 17, 18, 19, 33, 34, 35] 39 w ?_ ?_
      ·refine bch s (fun g s => ?_) (fun g s => ?_)
       ·refine tk g (sla 2 (aK (aH e.Id Z65 c)) rfl rfl lL) (tk g (sla 1 (aK e) rfl rfl lL) (tk g (aHx (a := (aH e.Id Z65 c)) (b := e) (aI rfl) rfl rfl rfl rfl Tryz.eqGuardType41 aGu) ?_));refine tk f (spt (.b (!decide ((aH e.Id Z65 c) = e))) g) ?_;obtain rfl := sIn s;refine aC (aQ rfl ⟨rfl, rfl, rfl, rfl, rfl, rfl, rfl, rfl, trivial⟩ rfl)
       ·refine tp g (tp g (tp g (tk f (spf Z12 g) ?_)));obtain rfl := sIn s;refine aC (aQ rfl ⟨rfl, rfl, rfl, rfl, rfl, rfl, rfl, rfl, trivial⟩ rfl)
      ·refine to (spf (.b w) f) ?_;obtain rfl := sIn j;refine aC (aQ rfl ⟨rfl, rfl, rfl, rfl, rfl, trivial⟩ rfl)
    ·refine aC ?_;refine tih h (fun F h => ?_) (fun F h => ?_)
     ·refine aD (aB (ta (.i 51) (aC ?_)));obtain rfl := sIn h;refine bL (bG (bI (l := [4]) ⟨rfl, trivial⟩)) ?_;exact rt
     ·refine aV (aB (tm (.d (.lit (.map (some r6)))) (tfl 1 rfl rfl mA rfl aS (to (sla 1 (aK e) rfl rfl lL) (to (gE (av := (fun v : aN => AV.agg (aK v))) (l := c) (v := e) (a := e.Id) (m := 0) kL underlying114 rfl rfl rfl rfl (eE (kv := VI) e.Id) rfl rfl) ?_)))));refine cM ?_;refine aB (to (sar rfl rfl rfl) (tm (.i (w64 (q + 1))) (aC ?_)));exact ⟨(w64 (q + 1), (dS e.Id e c), (mbs e.Id c x u), (mck e.Id c u)), h, aR [0] rfl rfl (aL rfl (aP ⟨rfl, rfl, rfl, trivial⟩))⟩
   ·refine cE ?_;refine .inl ⟨rfl, ?_⟩;simp only [vQ] at h;refine aD (aB (ta (.i 0) (aC ?_)));obtain rfl := sIn h;refine bL (bG (bI (l := [4]) ⟨rfl, trivial⟩)) ?_;exact rt

theorem xO (a : List aN) {r : Unit} (h : mF a = some r) : Fn Tryz.prog 68 [.d (Z28 a)] (.fn 95 (Z57 a)) := by
 unfold mF at h;refine nY func68 rfl (rs := [.tmp 2]) results68 ntmps68 (Nat.le_of_ble_eq_true rfl) ?_;refine aD (aB ?_);refine bA rfl (eN (v := .d (Z28 a)) (aI rfl) rfl rfl rfl) ?_;rintro _ ⟨b1, rfl⟩;refine ta (.d (.lit .nilFunc)) (aC (aD (aB (to (qR (aI rfl) rfl rfl) ?_))));refine ta (.fn 95 [.bp b1 0 0]) (aC ?_);exact cS ⟨rfl, _, [.box b1 0 [.sl 5 (a.map aK)]], .one (.tmp 2 (v := .fn 95 [.bp b1 0 0]) rfl), .refl _, (sE (.cons (eM 0 rfl rfl (dvc (.same _) dvn)) .nil))⟩

theorem rO {S : Type} (J K : S → MO → Prop) (ly : Nat) (a : S → aN → Option (S × Bool)) (hy : ∀ (s : S) (m : MO) (x0 : aN) (s' : S × Bool), J s m → a s x0 = some s' → yG Tryz.prog ly [.agg (aK x0)] m (fun b m' => b = s'.2 ∧ JK J K s' m')) (e : List aN) (sy : S) (m0 : MO) (hj : J sy m0) {r : S × Bool} (h : gT a e sy = some r) : dB Tryz.prog 95 [.d (.lit (yv ly)), .cp [.sl 5 (e.map aK)]] [m0] (fun _ o' => ∃ m', JK J K r m' ∧ o' = [m']) := by
 unfold gT at h;refine iV func95 rfl (rs := []) results95 ntmps95 (Nat.le_of_ble_eq_true rfl) ?_;refine aD (aB (to (slc rfl aLw) (to (sle rfl gS.of) (tm (.i 0) (aC (bF ?_))))));refine bY (S := Int × ({x : S × MO // J x.1 x.2})) [0, 5, 6] (fun s1 => [(7, .i s1.1)]) (fun s1 => [s1.2.1.2]) (fun k s1 => dD a e (e.length : Int) k s1.1 s1.2.1.1) (fun _ => rfl) (0, ⟨(sy, m0), hj⟩) h (aR [0] rfl rfl (aL rfl (aP ⟨rfl, rfl, rfl, trivial⟩))) ?_;rintro k3 ⟨c, y2⟩ h;simp only [dD] at h;refine aD (aB (to (scm rfl rfl rfl) (aC (aD ?_))));refine tih h (fun c4 h => ?_) (fun c4 h => ?_)
 ·refine aV (aD (bF (aD (aB ?_))));obtain ⟨x5, h6, h⟩ := bns h;refine to (six rfl rfl gS.of (bC aK h6)) (to (aAl (aK x5) rfl lL) ?_);refine bA rfl (eA (zs := [.j 0, .j 0, .j 0, .j 0, .j 0]) (aI rfl) zeroValue41 rfl rfl) ?_;rintro _ ⟨b7, rfl⟩;refine to (sst 1 rfl rfl sizeOf41 (aK x5)) (aC (aD (aB (tm (.d (.lit (yv ly))) (to (sla 1 (aK x5) rfl rfl lL) ?_)))));obtain ⟨y8, h9, h⟩ := bns h;refine aMq rfl (aMj (aI rfl) rfl rfl rfl rfl (hy _ _ _ _ y2.2 h9)) ?_;rintro _ ⟨_, f, ⟨rfl, g⟩, rfl⟩;refine to (sn rfl) (aC ?_);refine tih h (fun j h => ?_) (fun j h => ?_)
  ·obtain rfl := sIn h;exact cS ⟨rfl, _, [f], [.box b7 0 (aK x5)], _, .none, .refl _, .same _, f, g, rfl⟩
  ·refine cK ?_;refine aB (to (sar rfl rfl rfl) (tm (.i (w64 (c + 1))) (aC ?_)));exact ⟨(w64 (c + 1), ⟨(y8.1, f), (aVm g (bnf j))⟩), h, aR [0] rfl rfl (aL rfl (aP ⟨rfl, rfl, rfl, trivial⟩))⟩
 ·refine cE ?_;refine .inl ⟨rfl, ?_⟩;simp only [jG] at h;obtain rfl := sIn h;exact ⟨_, [y2.1.2], [], _, .none, .refl _, .same _, y2.1.2, y2.2, rfl⟩

theorem vG (a : List aN) {r : (List aN)} (h : kX a = some r) : dB Tryz.prog 116 [.d Z31, .fn 95 (Z57 a)] [] (fun r' o' => ∃ (w0 : Value), r' = .d (.lit w0) ∧ o' = [.arr w0 41 5 (r.map aK)]) := by
 unfold kX at h;refine iN func116 rfl (rs := [.tmp 4]) results116 ntmps116 (Nat.le_of_ble_eq_true rfl) ?_;refine bL (uR 41 5) ?_;refine aD (aB ?_);refine bA rfl (eN (v := .d Z31) (aI rfl) rfl rfl rfl) ?_;rintro _ ⟨b1, rfl⟩;refine to (fP 41 5 (.inl rfl) (aI rfl)) ?_;refine aC (aD (aD (aB (tm (.fn 95 (Z57 a)) (aC (bF ?_))))));obtain ⟨⟨s3, b9⟩, h4, h⟩ := bns h;refine aKb (S := (List aN) × Value) (S0 := (List aN)) (f := 95) (ps := [7]) (fun z7 => z7.1) (fun z7 => [.arr z7.2 41 5 (z7.1.map aK), .box b1 0 [.lit z7.2], .arr (.slice none 0 0) 41 5 (([] : List aN).map aK)]) (aWi (fun x8 : aN => .agg (aK x8)) _) (([] : List aN), (.slice none 0 0)) ([] : List aN) (s3, b9) (aR [0, 1, 2] rfl rfl (le_refl _)) rfl call95 rfl (by decide) rfl rfl (fun l J K hy m0 h0 => rO (S := (List aN)) J K l _ (fun _ _ _ _ hJ hq => hy _ _ _ _ hJ ⟨_, rfl, hq⟩) a _ m0 h0 h4) ?_ ?_ ?_
 ·rintro ⟨e5, w6⟩ _ _ ⟨x8, rfl, h⟩;refine ⟨rfl, ?_⟩;refine aB ?_;refine bA rfl (eA (zs := [.j 0, .j 0, .j 0, .j 0, .j 0]) (aI rfl) zeroValue41 rfl rfl) ?_;rintro _ ⟨k, rfl⟩;refine to (sst 3 rfl rfl sizeOf41 (aK x8)) (aC (bF (aB (to (sl 1 rfl rfl rfl aLw) (to (sla 3 (aK x8) rfl rfl lL) (to (gK (aI rfl) gS rfl rfl (rows := ([x8]).map aK) rfl (bD (f := aK) fun _ => rfl) rfl (by decide)) ?_))))));obtain ⟨g, j, h⟩ := bns h;refine bA rfl (jC (i := 0) (aI rfl) gS rfl rfl rfl (fun _ => rfl) j rfl) ?_;rintro _ ⟨e, rfl⟩;refine to (sst 1 rfl rfl sizeOf36 [.lit e]) ?_;refine cM ?_;obtain rfl := sIn h;exact ⟨rfl, (g, e), rfl, aR [0, 1, 2] rfl rfl aLj⟩
 ·rintro ⟨e5, w6⟩ b c;subst c;have h := uK b h;refine aTb ?_;refine aD (aB (to (sl 1 rfl rfl rfl aLw) (ta (.d (.lit w6)) (aC ?_))));obtain rfl := sIn h;exact cS ⟨rfl, _, [.arr w6 41 5 (e5.map aK)], [.box b1 0 [.lit w6], .arr (.slice none 0 0) 41 5 (([] : List aN).map aK)], _, .one (.tmp 4 (v := .d (.lit w6)) rfl), .refl _, .same _, w6, rfl, rfl⟩
 ·rintro ⟨e5, w6⟩ b c;subst c;have h := nQ b h;cases h

theorem wF (a : List aN) {r : (List aN)} (h : jV a = some r) : dB Tryz.prog 93 [.fn 95 (Z57 a)] [] (fun r' o' => ∃ (w0 : Value), r' = .d (.lit w0) ∧ o' = [.arr w0 41 5 (r.map aK)]) := by
 unfold jV at h;refine iN func93 rfl (rs := [.tmp 2]) results93 ntmps93 (Nat.le_of_ble_eq_true rfl) ?_;refine aD (aB (to (fP 41 5 (.inl rfl) (aI rfl)) ?_));refine aC (aD (aB (tm (.fn 95 (Z57 a)) ?_)));obtain ⟨r2, h3, h⟩ := bns h;refine bA rfl (mD (aI rfl) (.func _ _ call116) rfl rfl (vG _ h3)) ?_;rintro _ ⟨v4, rfl⟩;refine ta (.d (.lit v4)) (aC ?_);obtain rfl := sIn h;refine bL (aR [1, 0] rfl rfl (le_refl _)) ?_;exact cS ⟨rfl, _, [.arr v4 41 5 (r2.map aK)], Z54, _, .one (.tmp 2 (v := .d (.lit v4)) rfl), .refl _, .same _, v4, rfl, rfl⟩

theorem wG (x : List aN) (cmp : aN → aN → Option Int) {r : List aN} {x_v : Value} {e : TypeId} (f : Nat) (v : List AV) (he : ∀ args w, (callFunc f args).run Tryz.prog w = .ok (.enter f args) w) (hh : ∀ x0 x1 r, cmp x0 x1 = some r → Fn Tryz.prog f ([.agg (aK x0), .agg (aK x1)] ++ v) (.i r)) (h : oD x cmp = some r) : dB Tryz.prog 94 [.d (.lit x_v), .fn f v] [.arr x_v e 5 (x.map aK)] (fun r' o' => r' = .tup [] ∧ o' = [.arr x_v e 5 (r.map aK)]) := aUr (k := 5) (enc := aK) (fun _ => rfl) (fun _ => rfl) (by intro x v hv; simp [aK, gI] at hv; rcases hv with h | h | h | h | h <;> subst h <;> rfl) (fun enc hk h1 cf hO g cb blk off cap d w => Tryz.slices_SortFunc_total_k enc hk h1 cf hO g cb blk off cap d w) (fun p cap fv w => Tryz.slices_SortFunc_none_k p cap fv w) he hh h

theorem uL (c : List aN) (e : aN → aN → Option Int) {r : (List aN)} (a : Nat) (b : List AV) (f : ∀ args w, (callFunc a args).run Tryz.prog w = .ok (.enter a args) w) (g : ∀ (x0 : aN) (x1 : aN) r, e x0 x1 = some r → Fn Tryz.prog a ([.agg (aK x0), .agg (aK x1)] ++ b) (.i r)) (h : iU c e = some r) : dB Tryz.prog 67 [.fn 95 (Z57 c), .fn a b] [] (fun r' o' => ∃ (w0 : Value), r' = .d (.lit w0) ∧ o' = [.arr w0 41 5 (r.map aK)]) := by
 unfold iU at h;refine iN func67 rfl (rs := [.tmp 4]) results67 ntmps67 (Nat.le_of_ble_eq_true rfl) ?_;refine aD (aB (to (fP 41 5 (.inl rfl) (aI rfl)) ?_));refine aC (aD (aB (tm (.fn 95 (Z57 c)) ?_)));obtain ⟨r2, h3, h⟩ := bns h;refine bA rfl (mD (aI rfl) (.func _ _ call93) rfl rfl (wF _ h3)) ?_;rintro _ ⟨v4, rfl⟩;refine ta (.d (.lit v4)) (aC (aD (aB (tm (.d (.lit v4)) (tm (.fn a b) ?_)))));obtain ⟨r5, h6, h⟩ := bns h;refine dR (aR [1, 0] rfl rfl (le_refl _)) ?_;refine bA rfl (cU (passed := [.arr v4 41 5 (r2.map aK)]) (aI rfl) rfl (.func _ _ call94) rfl rfl (wG r2 e a b f g h6)) ?_;rintro _ ⟨_, _, ⟨rfl, rfl⟩, rfl⟩;refine aC (aD (aB (tm (.d (.lit v4)) (ta (.d (.lit v4)) (aC ?_)))));obtain rfl := sIn h;exact cS ⟨rfl, _, [.arr v4 41 5 (r5.map aK)], Z54, _, .one (.tmp 4 (v := .d (.lit v4)) rfl), .refl _, .same _, v4, rfl, rfl⟩

theorem aGs (a : aN) (b : aN) {r : Int} (h : eX a b = some r) : Fn Tryz.prog 69 [.agg (aK a), .agg (aK b)] (.i r) := by
 unfold eX at h;refine oT [.tmp 4] func69 results69 ntmps69 ?_;refine aD (aB ?_);refine bA rfl (eN (v := .agg (aK a)) (aI rfl) rfl rfl rfl) ?_;rintro _ ⟨b1, rfl⟩;refine bA rfl (eN (v := .agg (aK b)) (aI rfl) rfl rfl rfl) ?_;rintro _ ⟨b2, rfl⟩;refine ta (.i 0) (aC (aD (aB (tfl 0 rfl rfl gV rfl aS (tfl 1 rfl rfl gV rfl aS (to (sar rfl rfl rfl) (tfl 0 rfl rfl mA rfl aS (tfl 1 rfl rfl mA rfl aS (to (sar rfl rfl rfl) ?_)))))))));refine to (gK (aI rfl) bZ rfl rfl (rows := ([w64 (a.Hour - b.Hour), w64 (a.Id - b.Id)]).map aJ) rfl (bD (f := aJ) fun _ => rfl) rfl (by decide)) ?_;obtain ⟨r3, h4, h⟩ := bns h;refine to (scr call54 (uO _ h4)) (ta (.i r3) (aC ?_));obtain rfl := sIn h;refine bL (bG (bI (l := [4]) ⟨rfl, trivial⟩)) ?_;exact rt

theorem xF (s : List aN) {r : (List aN)} {j : Value} (h : iJ s = some r) : dB Tryz.prog 70 [.d (.lit j)] [.arr j 41 5 (s.map aK)] (fun r' o' => ∃ w0 : Value, r' = .d (.lit w0) ∧ o' = [.arr w0 41 5 (r.map aK)]) := by
 unfold iJ at h;refine iN func70 rfl (rs := [.tmp 2]) results70 ntmps70 (Nat.le_of_ble_eq_true rfl) ?_;refine aD (aB (to (fP 41 5 (.inl rfl) (aI rfl)) ?_));refine aC (aD (aD (aB (tm (Z39 j) (to (fJ (m := 0) (aI rfl) rfl rfl gS.of) ?_)))));refine to (scm rfl rfl rfl) (aC ?_);refine tih h (fun c2 h => ?_) (fun c2 h => ?_)
 ·refine aD (aB (tm (Z39 j) (ta (Z39 j) (aC ?_))));obtain rfl := sIn h;exact cS ⟨rfl, _, [.arr j 41 5 (s.map aK)], Z54, _, .one (.tmp 2 (v := .d (.lit j)) rfl), .refl _, .same _, j, rfl, rfl⟩
 ·refine aV (aD (aD (aB (ta (.i 1) (aC (bF ?_))))));refine bY (S := Int × (List aN) × Value) [] (fun s3 => [(0, .d (.lit s3.2.2)), (3, .i s3.1)]) (fun s3 => [.arr s3.2.2 41 5 (s3.2.1.map aK)]) (fun k s3 => dH k s3.1 s3.2.1) (fun _ => rfl) (1, s, j) h (aR [0] rfl rfl (aL rfl (aL rfl (aP trivial)))) ?_;rintro k5 ⟨c, p, w4⟩ h;simp only [dH] at h;refine aD (aD (aB (tm (.i c) (tm (.d (.lit w4)) (to (fJ (m := 0) (aI rfl) rfl rfl gS.of) ?_)))));refine to (scm rfl rfl rfl) (aC ?_);refine tih h (fun c6 h => ?_) (fun c6 h => ?_)
  ·refine aV (aD (bF (aD ?_)));obtain ⟨x7, h8, h⟩ := bns h;obtain ⟨x9, x, h⟩ := bns h;refine cG mix 9 [0, 3] [(19, .agg (aK x7)), (24, .agg (aK x9))] ?_ ?_
   ·refine ⟨[(16, 0, .d (.lit w4)), (17, 1, .i c), (18, 2, .ep w4 5 c.toNat 0), (19, 3, .agg (aK x7)), (20, 4, .d (.lit w4)), (21, 5, .i c), (22, 6, .i (w64 (c - 1))), (23, 7, .ep w4 5 (w64 (c - 1)).toNat 0), (24, 8, .agg (aK x9))], ?_, ?_⟩
    · exact dk [0, 0, 102, 3, 0, 0, 6, 507, 8] ⟨go (zm (.d (.lit w4))),
 go (zm (.i c)),
 go (zia 0 rfl rfl rfl gS.of (bC aK h8)),
 go fun S hS => cP (aI rfl) (aT hS rfl) (l := 0) rfl (dN aK h8) lL (es := (aK x7)) rfl rfl,
 go (zm (.d (.lit w4))),
 go (zm (.i c)),
 go (zar rfl rfl rfl),
 go (zia 0 rfl rfl rfl gS.of (bC aK x)),
 go fun S hS => cP (aI rfl) (aT hS rfl) (l := 0) rfl (dN aK x) lL (es := (aK x9)) rfl rfl, trivial⟩
    · exact bP (aL rfl (aL rfl (aP ⟨rfl, rfl, trivial⟩)))
   ·refine to (aTk (a := x7) (b := x9) (aI rfl) rfl rfl rfl rfl Tryz.eqGuardType41 aGu) ?_;refine aC ?_;refine tih h (fun C h => ?_) (fun C h => ?_)
    ·refine aD (aB (tm (.d (.lit w4)) (tm (.i c) ?_)));obtain ⟨K, E, h⟩ := bns h;refine to (sS (m := 0) (aI rfl) rfl rfl rfl gS.of E) ?_;refine ta (.d (.lit (kN w4 c.toNat 5))) (aC (aD (aD (aB (ta (.i 1) (aC (bF ?_)))))));refine bY (S := Int × Int × (List aN)) [] (fun o => [(0, .d (.lit w4)), (3, .i o.1), (4, .d (.lit (kN w4 c.toNat 5))), (5, .i o.2.1)]) (fun o => [.arr w4 41 5 (o.2.2.map aK)]) (fun k o => eF (dH k5) c k o.1 o.2.1 o.2.2) (fun _ => rfl) (c, 1, p) h (aR [0] rfl rfl (aL rfl (aL rfl (aL rfl (aL rfl (aP trivial)))))) ?_;rintro L ⟨g, e, n⟩ h;simp only [eF] at h;refine aD (aD (aB (tm (.i e) (tm (.d (.lit (kN w4 c.toNat 5))) (to (aHv (m := 0) (aI rfl) rfl rfl gS.of) ?_)))));refine to (scm rfl rfl rfl) (aC ?_);refine tih h (fun F h => ?_) (fun F h => ?_)
     ·refine aV (aD (bF (aD ?_)));obtain ⟨t, y, h⟩ := bns h;obtain ⟨u, z, h⟩ := bns h;refine cG mix 9 [0, 3, 4, 5] [(38, .agg (aK t)), (43, .agg (aK u))] ?_ ?_
      ·refine ⟨[(35, 0, .d (.lit (kN w4 c.toNat 5))), (36, 1, .i e), (37, 2, .ep w4 5 (c.toNat + e.toNat) 0), (38, 3, .agg (aK t)), (39, 4, .d (.lit (kN w4 c.toNat 5))), (40, 5, .i e), (41, 6, .i (w64 (e - 1))), (42, 7, .ep w4 5 (c.toNat + (w64 (e - 1)).toNat) 0), (43, 8, .agg (aK u))], ?_, ?_⟩
       · exact dk [0, 0, 102, 3, 0, 0, 6, 507, 8] ⟨go (zm (.d (.lit (kN w4 c.toNat 5)))),
 go (zm (.i e)),
 go fun S hS => rT (m := 0) (aI rfl) (aT hS rfl) rfl (aT hS rfl) gS.of (qT (f := aK) y),
 go fun S hS => cP (aI rfl) (aT hS rfl) (l := 0) rfl (yJ aK y) lL (es := (aK t)) rfl rfl,
 go (zm (.d (.lit (kN w4 c.toNat 5)))),
 go (zm (.i e)),
 go (zar rfl rfl rfl),
 go fun S hS => rT (m := 0) (aI rfl) (aT hS rfl) rfl (aT hS rfl) gS.of (qT (f := aK) z),
 go fun S hS => cP (aI rfl) (aT hS rfl) (l := 0) rfl (yJ aK z) lL (es := (aK u)) rfl rfl, trivial⟩
       · exact bP (aL rfl (aL rfl (aP ⟨rfl, rfl, rfl, rfl, trivial⟩)))
      ·refine to (aHx (a := t) (b := u) (aI rfl) rfl rfl rfl rfl Tryz.eqGuardType41 aGu) ?_;refine aC ?_;refine tih h (fun G h => ?_) (fun G h => ?_)
       ·refine aD (aB (tm (.d (.lit w4)) (tm (.i g) (tm (.d (.lit (kN w4 c.toNat 5))) (tm (.i e) ?_)))));obtain ⟨w, A, h⟩ := bns h;refine to (rT (m := 0) (aI rfl) rfl rfl rfl gS.of (qT (f := aK) A)) ?_;refine to (cP (aI rfl) rfl (l := 0) rfl (yJ aK A) lL (es := (aK w)) rfl rfl) ?_;obtain ⟨M, B, h⟩ := bns h;refine to (iX (m := 0) (aI rfl) rfl rfl rfl gS.of (bC aK B)) ?_;refine to (kM (l := 0) rfl rfl (dN aK B) rfl rfl rfl sizeOf41 rfl (aI rfl) (Nat.le_of_ble_eq_true rfl) (rows' := ((n.set g.toNat w)).map aK) (oS _ _ _ _ rfl)) ?_;refine aC (aB (tm (.i g) (to (sar rfl rfl rfl) (ta (.i (w64 (g + 1))) ?_))));refine cM ?_;refine aB (tm (.i e) (to (sar rfl rfl rfl) (ta (.i (w64 (e + 1))) (aC ?_))));exact ⟨(w64 (g + 1), w64 (e + 1), (n.set g.toNat w)), h, aR [0] rfl rfl (aL rfl (aL rfl (aL rfl (aL rfl (aP trivial)))))⟩
       ·refine cK ?_;refine aB (tm (.i e) (to (sar rfl rfl rfl) (ta (.i (w64 (e + 1))) (aC ?_))));exact ⟨(g, w64 (e + 1), n), h, aR [0] rfl rfl (aL rfl (aL rfl (aL rfl (aL rfl (aP trivial)))))⟩
     ·refine cE ?_;refine .inl ⟨rfl, ?_⟩;simp only [nE] at h;refine aD (aB (tm (.d (.lit w4)) (tm (.i g) ?_)));obtain ⟨N, H, h⟩ := bns h;refine to (sS (m := 0) (aI rfl) rfl rfl rfl gS.of H) ?_;obtain ⟨O, I, h⟩ := bns h;refine to (aGj (f := aK) (m := 0) gS rfl rfl I (by decide)) ?_;refine aC (aD (aB (tm (.d (.lit w4)) (tm (.i g) ?_))));obtain ⟨P, J, h⟩ := bns h;refine to (sR (m := 0) (q := g.toNat) (v := w4) (aI rfl) rfl rfl rfl rfl (aDd J) gS.of) ?_;refine ta (.d (.lit (gM w4 g.toNat))) (aC ?_);obtain rfl := sIn h;exact cS ⟨rfl, _, [.arr (gM w4 g.toNat) 41 5 ((n.take g.toNat).map aK)], [], _, .one (.tmp 2 (v := .d (.lit (gM w4 g.toNat))) rfl), .refl _, .same _, (gM w4 g.toNat), rfl, rfl⟩
    ·refine cK ?_;simp only [nD] at h;refine aB (tm (.i c) (to (sar rfl rfl rfl) (ta (.i (w64 (c + 1))) (aC ?_))));exact ⟨(w64 (c + 1), p, w4), h, aR [0] rfl rfl (aL rfl (aL rfl (aP trivial)))⟩
  ·refine cE ?_;refine .inl ⟨rfl, ?_⟩;simp only [nC] at h;refine aD (aB (tm (.d (.lit w4)) (ta (.d (.lit w4)) (aC ?_))));obtain rfl := sIn h;exact cS ⟨rfl, _, [.arr w4 41 5 (p.map aK)], [], _, .one (.tmp 2 (v := .d (.lit w4)) rfl), .refl _, .same _, w4, rfl, rfl⟩

theorem mW (a : aO) {r : Int} (h : iO a = some r) : Fn Tryz.prog 25 [.cp (bX a)] (.i r) := by
 unfold iO at h;refine oT [.tmp 2] func25 results25 ntmps25 ?_;refine aD (aB (ta (.i 0) (aC (aD ?_))));refine cG mix 9 [] [(7, .i a.Field.Places), (11, .i a.more)] ?_ ?_
 ·refine ⟨[(3, 0, .cp [.j a.Field.Places, .j a.Field.Wilds, .j a.Field.Guards, .j a.Field.Close, .j a.Field.Freeze, .mp true (a.players.map fun p : Int × aA => (VI p.1, aE p.2)), .sl 1 (Z17 a), .k a.frozen, .sl 1 (Z14 a), .sl 1 (Z18 a), .j a.more, .j a.entered]), (4, 1, .cp [.j a.Field.Places, .j a.Field.Wilds, .j a.Field.Guards, .j a.Field.Close, .j a.Field.Freeze, .mp true (a.players.map fun p : Int × aA => (VI p.1, aE p.2)), .sl 1 (Z17 a), .k a.frozen, .sl 1 (Z14 a), .sl 1 (Z18 a), .j a.more, .j a.entered]), (5, 2, .cp [.j a.Field.Places, .j a.Field.Wilds, .j a.Field.Guards, .j a.Field.Close, .j a.Field.Freeze]), (6, 3, .cp [.j a.Field.Places]), (7, 4, .i a.Field.Places), (8, 5, .cp [.j a.Field.Places, .j a.Field.Wilds, .j a.Field.Guards, .j a.Field.Close, .j a.Field.Freeze, .mp true (a.players.map fun p : Int × aA => (VI p.1, aE p.2)), .sl 1 (Z17 a), .k a.frozen, .sl 1 (Z14 a), .sl 1 (Z18 a), .j a.more, .j a.entered]), (9, 6, .cp [.j a.Field.Places, .j a.Field.Wilds, .j a.Field.Guards, .j a.Field.Close, .j a.Field.Freeze, .mp true (a.players.map fun p : Int × aA => (VI p.1, aE p.2)), .sl 1 (Z17 a), .k a.frozen, .sl 1 (Z14 a), .sl 1 (Z18 a), .j a.more, .j a.entered]), (10, 7, .cp [.j a.more]), (11, 8, .i a.more)], ?_, ?_⟩
  · exact dk [0, 1, 2, 3, 4, 0, 6, 7, 8] ⟨go (zm (Z1 a)),
 go fun S hS => dZ (aI rfl) (aT hS rfl),
 go (zfc [.j a.Field.Places, .j a.Field.Wilds, .j a.Field.Guards, .j a.Field.Close, .j a.Field.Freeze] rfl kC),
 go (zfc [.j a.Field.Places] rfl yR),
 go (zlc rfl aS),
 go (zm (Z1 a)),
 go fun S hS => dZ (aI rfl) (aT hS rfl),
 go (zfc [.j a.more] rfl yV),
 go (zlc rfl aS), trivial⟩
  · exact bP (aL rfl (aL rfl (aP trivial)))
 ·refine to (sar rfl rfl rfl) (ta (.i (w64 (a.Field.Places + a.more))) (aC ?_));obtain rfl := sIn h;exact rt

theorem vM (c : aO) (f : List Int) {r : Int} (h : mK c f = some r) : Fn Tryz.prog 74 [.cp (bX c), .d (Z35 f)] (.i r) := by
 unfold mK at h;refine oT [.tmp 4] func74 results74 ntmps74 ?_;refine aD (aB (ta (.i 0) (aC (aD (aD (aB (tm (.d (Z35 f)) (to (sle rfl bZ.of) (tm (.i 0) (aC (bF ?_)))))))))));refine bY (S := Int × Int) [0, 7, 8] (fun s1 => [(4, .i s1.1), (9, .i s1.2)]) (fun s1 => []) (fun k s1 => hZ c f (f.length : Int) k s1.1 s1.2) (fun _ => rfl) (0, 0) h (aR [] rfl rfl (aL rfl (aL rfl (aP ⟨rfl, rfl, rfl, trivial⟩)))) ?_;rintro k2 ⟨b, e⟩ h;simp only [hZ] at h;refine aD (aB (to (scm rfl rfl rfl) (aC (aD ?_))));refine tih h (fun c3 h => ?_) (fun c3 h => ?_)
 ·refine aV (aD (bF (aD (aB ?_))));obtain ⟨x4, h5, h⟩ := bns h;refine to (six rfl rfl bZ.of (bC aJ h5)) (to (slc rfl aS) (ta (.i x4) (aC (aD (aB (tm (Z1 c) (to (dZ (aI rfl) rfl) ?_)))))));refine to (sfc [.mp true (c.players.map fun p : Int × aA => (VI p.1, aE p.2))] rfl fC) (to (slc rfl jA) (tm (.i x4) (to (oN (enc := aE) (agg := true) (l := c.players) (z := Z2) (a := x4) (aI rfl) kL underlying67 zeroValue75 (fun _ _ => .agg (oM rfl)) rfl rfl rfl rfl (eE (kv := VI) x4)) ?_)));refine to (aAk (aI rfl) rfl runUnderlying75 rfl fI rfl) ?_;refine aC ?_;refine tih h (fun c6 h => ?_) (fun c6 h => ?_)
  ·refine aB (tm (.i b) (to (sar rfl rfl rfl) (ta (.i (w64 (b + 1))) ?_)));refine cM ?_;refine aB (to (sar rfl rfl rfl) (tm (.i (w64 (e + 1))) (aC ?_)));exact ⟨(w64 (b + 1), w64 (e + 1)), h, aR [] rfl rfl (aL rfl (aL rfl (aP ⟨rfl, rfl, rfl, trivial⟩)))⟩
  ·refine cK ?_;refine aB (to (sar rfl rfl rfl) (tm (.i (w64 (e + 1))) (aC ?_)));exact ⟨(b, w64 (e + 1)), h, aR [] rfl rfl (aL rfl (aL rfl (aP ⟨rfl, rfl, rfl, trivial⟩)))⟩
 ·refine cE ?_;refine .inl ⟨rfl, ?_⟩;simp only [rA] at h;refine aD (aB (tm (.i b) (ta (.i b) (aC ?_))));obtain rfl := sIn h;exact rt

theorem uT (c : List (Int × aA)) (d : Int) {r : Bool} {f g j k m o q s t u e : D} (h : iA c d = some r) : Fn Tryz.prog 50 [.cp [f, g, j, k, m, .mp true (c.map fun p : Int × aA => (VI p.1, aE p.2)), o, q, s, t, u, e], .i d] (.b r) := by
 unfold iA at h;refine oT [.tmp 4] func50 results50 ntmps50 ?_;refine aD (aB (ta Z12 (aC (aD (aB (tm (.cp [f, g, j, k, m, .mp true (c.map fun p : Int × aA => (VI p.1, aE p.2)), o, q, s, t, u, e]) (to (dZ (aI rfl) rfl) ?_)))))));refine to (sfc [.mp true (c.map fun p : Int × aA => (VI p.1, aE p.2))] rfl fC) (to (slc rfl jA) (tm (.i d) (to (oN (enc := aE) (agg := true) (l := c) (z := Z2) (a := d) (aI rfl) kL underlying67 zeroValue75 (fun _ _ => .agg (oM rfl)) rfl rfl rfl rfl (eE (kv := VI) d)) ?_)));refine bA rfl (eA (zs := [.k false, .k false, .j 0, .j 0, .k false, .k false, .k false, .k false]) (aI rfl) zeroValue75 rfl rfl) ?_;rintro _ ⟨b1, rfl⟩;refine to (sst 0 rfl rfl sizeOf75 (aE (aH d Z2 c))) (aC (aD (aB (tfl 0 rfl rfl yW rfl fI (tm (.b ((aH d Z2 c).entered)) ?_)))));obtain ⟨b2, h3, h⟩ := bns h;refine aZ 4 [5] 18 b2 ?_ ?_
 ·refine bch h3 (fun c7 h3 => ?_) (fun c7 h3 => ?_)
  ·refine tkl 0 c7 rfl rfl rF rfl fI (tk c7 (sn rfl) (to (spt (.b (!((aH d Z2 c).quit))) c7) ?_));obtain rfl := sIn h3;refine aC (aQ rfl ⟨rfl, trivial⟩ rfl)
  ·refine tp c7 (tp c7 (tp c7 (to (spf Z12 c7) ?_)));obtain rfl := sIn h3;refine aC (aQ rfl ⟨rfl, trivial⟩ rfl)
 ·refine tm (.b b2) ?_;obtain ⟨b4, h5, h⟩ := bns h;refine aZ 4 [] 23 b4 ?_ ?_
  ·refine bch h5 (fun c6 h5 => ?_) (fun c6 h5 => ?_)
   ·refine tkl 0 c6 rfl rfl aFx rfl fI (tk c6 (sn rfl) (to (spt (.b (!((aH d Z2 c).had))) c6) ?_));obtain rfl := sIn h5;refine aC (aQ rfl trivial rfl)
   ·refine tp c6 (tp c6 (tp c6 (to (spf Z12 c6) ?_)));obtain rfl := sIn h5;refine aC (aQ rfl trivial rfl)
  ·refine ta (.b b4) (aC ?_);obtain rfl := sIn h;refine bL (bG (bI (l := [4]) ⟨rfl, trivial⟩)) ?_;exact rt

theorem aBe (x : List Int) (cmp : Int → Int → Option Int) {r : List Int} {x_v : Value} {e : TypeId} (f : Nat) (v : List AV) (he : ∀ args w, (callFunc f args).run Tryz.prog w = .ok (.enter f args) w) (hh : ∀ x0 x1 r, cmp x0 x1 = some r → Fn Tryz.prog f ([.i x0, .i x1] ++ v) (.i r)) (h : sC x cmp = some r) : dB Tryz.prog 51 [.d (.lit x_v), .fn f v] [.arr x_v e 1 (x.map aJ)] (fun r' o' => r' = .tup [] ∧ o' = [.arr x_v e 1 (r.map aJ)]) := aRb (fun enc h1 cf hO g cb blk off cap d w => Tryz.slices_SortFunc_total enc h1 cf hO g cb blk off cap d w) (fun p cap fv w => Tryz.slices_SortFunc_none (α := Int) p cap fv w) he hh h

theorem sI (a : aA) {r : Int} (h : jL a = some r) : Fn Tryz.prog 53 [.agg (aE a)] (.i r) := by
 unfold jL at h;refine oT [.tmp 2] func53 results53 ntmps53 ?_;refine aD (aB ?_);refine bA rfl (eN (v := .agg (aE a)) (aI rfl) rfl rfl rfl) ?_;rintro _ ⟨b1, rfl⟩;refine ta (.i 0) (aC (aD (aD (aB (tfl 0 rfl rfl vV rfl aS (to (scm rfl rfl rfl) (aC ?_)))))));refine tih h (fun c2 h => ?_) (fun c2 h => ?_)
 ·refine aD (aB (ta (.i 1) (aC ?_)));obtain rfl := sIn h;refine bL (bG (bI (l := [2]) ⟨rfl, trivial⟩)) ?_;exact rt
 ·refine aV (aD (aB (ta (.i 0) (aC ?_))));obtain rfl := sIn h;refine bL (bG (bI (l := [2]) ⟨rfl, trivial⟩)) ?_;exact rt

theorem aAc (e : Int) (g : Int) (c : aO) {r : Int} (h : eY e g c = some r) : Fn Tryz.prog 52 [.i e, .i g, .cp [.pt (bX c)]] (.i r) := by
 unfold eY at h;refine oT [.tmp 5] func52 results52 ntmps52 ?_;refine aD (aB (ta (.i 0) (aC (aD ?_))));refine jP mix 15 [] (fun X1 => [(6, .bp (X1 12).b 0 0), (7, .bp (X1 13).b 0 0), (20, .agg (aE (Z20 g c)))]) (fun X1 => [.box (X1 12).b 0 (aE (Z20 e c)), .box (X1 13).b 0 (aE Z2)]) ?_ ?_
 ·refine ⟨2, fun X1 => [(9, 0, .cp [.j c.Field.Places, .j c.Field.Wilds, .j c.Field.Guards, .j c.Field.Close, .j c.Field.Freeze, .mp true (c.players.map fun p : Int × aA => (VI p.1, aE p.2)), .sl 1 (Z17 c), .k c.frozen, .sl 1 (Z14 c), .sl 1 (Z18 c), .j c.more, .j c.entered]), (10, 1, .cp [.j c.Field.Places, .j c.Field.Wilds, .j c.Field.Guards, .j c.Field.Close, .j c.Field.Freeze, .mp true (c.players.map fun p : Int × aA => (VI p.1, aE p.2)), .sl 1 (Z17 c), .k c.frozen, .sl 1 (Z14 c), .sl 1 (Z18 c), .j c.more, .j c.entered]), (11, 2, .cp [.mp true (c.players.map fun p : Int × aA => (VI p.1, aE p.2))]), (12, 3, .d (.mp true (c.players.map fun p : Int × aA => (VI p.1, aE p.2)))), (13, 4, .i e), (14, 5, .agg (aE (Z20 e c))), (15, 6, .cp [.j c.Field.Places, .j c.Field.Wilds, .j c.Field.Guards, .j c.Field.Close, .j c.Field.Freeze, .mp true (c.players.map fun p : Int × aA => (VI p.1, aE p.2)), .sl 1 (Z17 c), .k c.frozen, .sl 1 (Z14 c), .sl 1 (Z18 c), .j c.more, .j c.entered]), (16, 7, .cp [.j c.Field.Places, .j c.Field.Wilds, .j c.Field.Guards, .j c.Field.Close, .j c.Field.Freeze, .mp true (c.players.map fun p : Int × aA => (VI p.1, aE p.2)), .sl 1 (Z17 c), .k c.frozen, .sl 1 (Z14 c), .sl 1 (Z18 c), .j c.more, .j c.entered]), (17, 8, .cp [.mp true (c.players.map fun p : Int × aA => (VI p.1, aE p.2))]), (18, 9, .d (.mp true (c.players.map fun p : Int × aA => (VI p.1, aE p.2)))), (19, 10, .i g), (20, 11, .agg (aE (Z20 g c))), (6, 12, .bp (X1 12).b 0 0), (7, 13, .bp (X1 13).b 0 0)], fun X1 => [([(14, .box (X1 12).b 0 (aE (Z20 e c))), (12, .box (X1 12).b 0 (aE Z2))], nob), ([(13, .box (X1 13).b 0 (aE Z2))], nob)], ?_, ?_⟩
  · exact xok [(0, 15), (1, 15), (2, 15), (3, 15), (0, 15), (405, 15), (0, 0), (7, 0), (8, 0), (9, 0), (0, 0), (1011, 0), (0, 15), (0, 15), (61314, 0)] ⟨fun _ _ w _ k => xp w (xD (.ptc _) (pY (aI rfl) (aT k rfl) kP)),
 fun _ _ w _ k => xp w (dZ (aI rfl) (aT k rfl)),
 fun _ _ w _ k => xp w (yfc k [.mp true (c.players.map fun p : Int × aA => (VI p.1, aE p.2))] rfl fC),
 fun _ _ w _ k => xp w (ylc k rfl jA),
 fun _ _ w _ k => xp w (ym k (.i e)),
 fun _ _ w _ k => xp w (oN (enc := aE) (agg := true) (l := c.players) (z := Z2) (a := e) (aI rfl) kL underlying67 zeroValue75 (fun _ _ => .agg (oM rfl)) (aT k rfl) rfl rfl (aT k rfl) (eE (kv := VI) e)),
 fun _ _ w _ k => xp w (xD (.ptc _) (pY (aI rfl) (aT k rfl) kP)),
 fun _ _ w _ k => xp w (dZ (aI rfl) (aT k rfl)),
 fun _ _ w _ k => xp w (yfc k [.mp true (c.players.map fun p : Int × aA => (VI p.1, aE p.2))] rfl fC),
 fun _ _ w _ k => xp w (ylc k rfl jA),
 fun _ _ w _ k => xp w (ym k (.i g)),
 fun _ _ w _ k => xp w (oN (enc := aE) (agg := true) (l := c.players) (z := Z2) (a := g) (aI rfl) kL underlying67 zeroValue75 (fun _ _ => .agg (oM rfl)) (aT k rfl) rfl rfl (aT k rfl) (eE (kv := VI) g)),
 fun X1 S hw hi hS => qV (X := X1) (p := 0) (v := fun x => .bp x.b 0 0) (mo := fun x => .box x.b 0 (aE Z2)) hS hi rfl rfl (fun _ => rfl) hw (fun _ => rfl) (fun _ => rfl) (fun _ => rfl) (fun _ => ⟨rfl, rfl, .inr rfl, ⟨rfl, rfl, .inr rfl, ⟨rfl, rfl, .inr rfl, ⟨rfl, rfl, .inr rfl, ⟨rfl, rfl, .inr rfl, ⟨rfl, rfl, .inr rfl, ⟨rfl, rfl, .inr rfl, ⟨rfl, rfl, .inr rfl, ⟨rfl, rfl, .inr rfl, ⟨rfl, rfl, .inr rfl, ⟨rfl, rfl, .inr rfl, ⟨rfl, rfl, .inr rfl, ⟨rfl, rfl, .inl rfl, ⟨rfl, rfl, .inr rfl, trivial⟩⟩⟩⟩⟩⟩⟩⟩⟩⟩⟩⟩⟩⟩) (fun _ => ⟨⟨rfl, .inl rfl, ⟨rfl, .inl rfl, trivial⟩⟩, rfl, ⟨⟨rfl, .inr rfl, trivial⟩, rfl, trivial⟩⟩) (lQ (eA (zs := [.k false, .k false, .j 0, .j 0, .k false, .k false, .k false, .k false]) (aI rfl) zeroValue75 rfl rfl) (by rintro _ ⟨w, rfl⟩; exact ⟨⟨w, undef⟩, aR [2, 1] rfl rfl (le_refl _)⟩)),
 fun X1 S hw hi hS => qV (X := X1) (p := 1) (v := fun x => .bp x.b 0 0) (mo := fun x => .box x.b 0 (aE Z2)) hS hi rfl rfl (fun _ => rfl) hw (fun _ => rfl) (fun _ => rfl) (fun _ => rfl) (fun _ => ⟨rfl, rfl, .inr rfl, ⟨rfl, rfl, .inr rfl, ⟨rfl, rfl, .inr rfl, ⟨rfl, rfl, .inr rfl, ⟨rfl, rfl, .inr rfl, ⟨rfl, rfl, .inr rfl, ⟨rfl, rfl, .inr rfl, ⟨rfl, rfl, .inr rfl, ⟨rfl, rfl, .inr rfl, ⟨rfl, rfl, .inr rfl, ⟨rfl, rfl, .inr rfl, ⟨rfl, rfl, .inr rfl, ⟨rfl, rfl, .inr rfl, ⟨rfl, rfl, .inl rfl, trivial⟩⟩⟩⟩⟩⟩⟩⟩⟩⟩⟩⟩⟩⟩) (fun _ => ⟨⟨rfl, .inr rfl, ⟨rfl, .inr rfl, trivial⟩⟩, rfl, ⟨⟨rfl, .inl rfl, trivial⟩, rfl, trivial⟩⟩) (lQ (eA (zs := [.k false, .k false, .j 0, .j 0, .k false, .k false, .k false, .k false]) (aI rfl) zeroValue75 rfl rfl) (by rintro _ ⟨w, rfl⟩; exact ⟨⟨w, undef⟩, aR [0, 2] rfl rfl (le_refl _)⟩)),
 fun _ _ _ _ k => xs 0 k rfl rfl (mE (i := 0) (aT k rfl) (og k rfl rfl) (aT k rfl) rfl rfl sizeOf75 rfl (aI rfl) (Nat.le_of_ble_eq_true rfl) (ds' := (aE (Z20 e c))) rfl), trivial⟩
  · exact fun X1 => bP (aL rfl (aL rfl (aL rfl (aP trivial))))
 ·intro X1;refine to (sst 1 rfl rfl sizeOf75 (aE (Z20 g c))) (aC (aD (aB (ta (.fn 53 []) (aC (aD ?_))))));obtain ⟨r2, h3, h⟩ := bns h;obtain ⟨r4, h5, h⟩ := bns h;refine cG mix 17 [] [(27, .i (w64 (r2 - r4))), (32, .i (w64 (((Z20 e c).rank) - ((Z20 g c).rank)))), (37, .i (w64 (((Z20 e c).turn) - ((Z20 g c).turn))))] ?_ ?_
  ·refine ⟨[(21, 0, .fn 53 []), (22, 1, .agg (aE (Z20 e c))), (23, 2, .i r2), (24, 3, .fn 53 []), (25, 4, .agg (aE (Z20 g c))), (26, 5, .i r4), (27, 6, .i (w64 (r2 - r4))), (28, 7, .bp (X1 12).b 0 2), (29, 8, .i ((Z20 e c).rank)), (30, 9, .bp (X1 13).b 0 2), (31, 10, .i ((Z20 g c).rank)), (32, 11, .i (w64 (((Z20 e c).rank) - ((Z20 g c).rank)))), (33, 12, .bp (X1 12).b 0 3), (34, 13, .i ((Z20 e c).turn)), (35, 14, .bp (X1 13).b 0 3), (36, 15, .i ((Z20 g c).turn)), (37, 16, .i (w64 (((Z20 e c).turn) - ((Z20 g c).turn))))], ?_, ?_⟩
   · exact dk [0, 0, 102, 0, 0, 405, 306, 0, 8, 0, 10, 911, 0, 13, 0, 15, 1416] ⟨go (zm (.fn 53 [])),
 go (zla 0 (aE (Z20 e c)) rfl rfl mS),
 go fun S hS => fX (aI rfl) (.clo _ _ _ _ call53 (aCd hS rfl)) (yN (ev2 (aT hS rfl) evn)) rfl (BVs.refl _ _) (sI _ h3) rfl,
 go (zm (.fn 53 [])),
 go (zla 1 (aE (Z20 g c)) rfl rfl mS),
 go fun S hS => fX (aI rfl) (.clo _ _ _ _ call53 (aCd hS rfl)) (yN (ev2 (aT hS rfl) evn)) rfl (BVs.refl _ _) (sI _ h5) rfl,
 go (zar rfl rfl rfl),
 go (zf rfl vV),
 go (zl 0 rfl rfl rfl aS),
 go (zf rfl vV),
 go (zl 1 rfl rfl rfl aS),
 go (zar rfl rfl rfl),
 go (zf rfl aBw),
 go (zl 0 rfl rfl rfl aS),
 go (zf rfl aBw),
 go (zl 1 rfl rfl rfl aS),
 go (zar rfl rfl rfl), trivial⟩
   · exact bP (aL rfl (aL rfl (aL rfl (aP trivial))))
  ·refine to (gK (aI rfl) bZ rfl rfl (rows := ([w64 (r2 - r4), w64 (((Z20 e c).rank) - ((Z20 g c).rank)), w64 (((Z20 e c).turn) - ((Z20 g c).turn))]).map aJ) rfl (bD (f := aJ) fun _ => rfl) rfl (by decide)) ?_;obtain ⟨r6, h7, h⟩ := bns h;refine to (scr call54 (uO _ h7)) (ta (.i r6) (aC ?_));obtain rfl := sIn h;refine bL (bG (bI (l := [5]) ⟨rfl, trivial⟩)) ?_;exact rt

theorem aAu (a : aO) {Q : (List Int) → Prop} (h : pO a Q) : dB Tryz.prog 27 [.cp (bX a)] [] (fun r' o' => ∃ (r : (List Int)) (w0 : Value), Q r ∧ r' = .d (.lit w0) ∧ o' = [.arr w0 3 1 (r.map aJ)]) := by
 unfold pO at h;refine iN func27 rfl (rs := [.tmp 2]) results27 ntmps27 (Nat.le_of_ble_eq_true rfl) ?_;refine aD (aB ?_);refine dR (aVg 0 rfl (.cpt _)) ?_;refine bA rfl (eN (v := .d (.pt (bX a))) (aI rfl) rfl rfl rfl) ?_;rintro _ ⟨b1, rfl⟩;refine to (fP 3 1 (.inl rfl) (aI rfl)) ?_;refine aC (aD (aB (to (fP 3 1 (.inl rfl) (aI rfl)) ?_)));refine aC (aD (aD (aB (to (xD (.ptc _) (qY (aI rfl) rfl (i := 0) rfl rfl kP)) ?_))));refine to (dZ (aI rfl) rfl) ?_;refine to (sfc [.mp true (a.players.map fun p : Int × aA => (VI p.1, aE p.2))] rfl fC) (to (slc rfl jA) ?_);refine bA rfl (aPq (kv := VI) (enc := aE) (agg := true) (l := a.players) (av := (fun v : aA => AV.agg (aE v))) (fun _ => rfl) (aI rfl) underlying67 rfl rfl) ?_;rintro _ ⟨q4, r5, o, e, h8, rfl⟩;have h := aLr h h8;refine aC (bF ?_);refine aSx [1, 9] (fun (j : (List Int) × Value × (List Nat)) => [(3, .d (.lit j.2.1))]) (fun (j : (List Int) × Value × (List Nat)) => [.box b1 0 [.pt (bX a)], .arr j.2.1 3 1 (j.1.map aJ), wO VI (fun v : aA => AV.agg (aE v)) a.players r5 o e, .iter q4 r5 e j.2.2 e]) (fun (k : Nat) (j : (List Int) × Value × (List Nat)) => iR Q a k j.1 (oK a.players o j.2.2)) (fun _ h => h) (([] : List Int), (.slice none 0 0), []) h (aR [0, 2, 3, 4] rfl rfl (aL rfl (aP ⟨rfl, rfl, trivial⟩))) ?_;rintro H ⟨b, c, g⟩ h;simp only [iR] at h;refine aD (aB ?_);refine bA rfl (aRa (kv := VI) (av := (fun v : aA => AV.agg (aE v))) (l := a.players) (mi := 3) (mm := 2) (aI rfl) rfl rfl rfl) ?_;rintro _ (⟨y, rfl⟩ | ⟨I, q, m, s, rfl⟩)
 ·have h := h.1 y;refine to (sex rfl rfl) (aC (aD ?_));refine aIc rfl (fun t => ?_) (fun t => ?_)
  ·exact absurd t (by decide)
  ·refine cE ?_;refine .inl ⟨rfl, ?_⟩;simp only [nV] at h;refine aD (aB (tm (.d (.lit c)) (to (qR (aI rfl) rfl rfl) ?_)));refine dR (aR [1, 2, 3, 0] rfl rfl (le_refl _)) ?_;apply wI [.arr c 3 1 (b.map aJ), wO VI (fun v : aA => AV.agg (aE v)) a.players r5 o e, .iter q4 r5 e g e] [.box b1 0 [.pt (bX a)]] rfl;exact dK (k := 22) (v := .fn 52 [.cp [.pt (bX a)]]) (sE (.cons (eM 0 rfl rfl (dvc (.same _) dvn)) .nil)) (dK (k := 1) (v := .cp [.pt (bX a)]) (eM 0 rfl rfl (dvc (.same _) dvn)) (lU _ _));obtain ⟨u, z, h⟩ := aIo h;refine bA rfl (cU (passed := [.arr c 3 1 (b.map aJ)]) (aI rfl) rfl (.func _ _ call51) rfl rfl (aBe b (fun A B => eY A B a) 52 [.cp [.pt (bX a)]] call52 (fun _ _ _ h => aAc _ _ a h) z)) ?_;rintro _ ⟨_, _, ⟨rfl, rfl⟩, rfl⟩;refine aC (aD (aB (tm (.d (.lit c)) (ta (.d (.lit c)) (aC ?_)))));exact cS ⟨rfl, _, [.arr c 3 1 (u.map aJ)], [wO VI (fun v : aA => AV.agg (aE v)) a.players r5 o e, .iter q4 r5 e g e], _, .one (.tmp 2 (v := .d (.lit c)) rfl), .refl _, .same _, u, c, h, rfl, rfl⟩
 ·have h := aNe h s;refine to (sex rfl rfl) (aC (aD ?_));refine aIc rfl (fun w => ?_) (fun w => ?_)
  ·refine aV (bF (aD (aB (to (aPk (kv := VI) (av := (fun v : aA => AV.agg (aE v))) (l := a.players) (mi := 3) (mm := 2) (ka := .i m.1) (aI rfl) rfl rfl rfl s (fun _ _ => .d (.lit _ rfl))) ?_))));refine to (sex rfl rfl) (ta (.i m.1) (aC (aD (aB (to (xD (.ptc _) (qY (aI rfl) rfl (i := 0) rfl rfl kP)) ?_)))));refine tm (.i m.1) ?_;obtain ⟨J, C, h⟩ := aIo h;refine to (scr call50 (uT _ _ C)) (aC ?_);refine tip h (fun E h => ?_) (fun E h => ?_)
   ·refine aB (tm (.d (.lit c)) (tm (.i m.1) (to (gK (aI rfl) bZ rfl rfl (rows := ([m.1]).map aJ) rfl (bD (f := aJ) fun _ => rfl) rfl (by decide)) ?_)));obtain ⟨F, G, h⟩ := aIo h;refine bA rfl (jC (i := 1) (aI rfl) bZ rfl rfl rfl (fun _ => rfl) G rfl) ?_;rintro _ ⟨x, rfl⟩;refine ta (.d (.lit x)) ?_;refine cM ?_;exact ⟨(F, x, (g ++ [q])), h, aR [0, 1, 2, 3] rfl rfl (aL rfl (aP ⟨rfl, rfl, trivial⟩))⟩
   ·refine cK ?_;exact ⟨(b, c, (g ++ [q])), h, aR [0, 1, 2, 3] rfl rfl (aL rfl (aP ⟨rfl, rfl, trivial⟩))⟩
  ·exact absurd w (by decide)

theorem nW (a0 : aO) {r : List Int} (h : gG a0 = some r) : dB Tryz.prog 27 (Z29 a0) [] (fun r' o' => ∃ w0, r' = .d (.lit w0) ∧ o' = [.arr w0 3 1 (r.map aJ)]) := aQu (enc := fun x : List Int => x.map aJ) (aAu a0 (aAd a0 h (fun x => x = r) rfl))
theorem uS (a0 : aO) {r : List Int} (h : gG a0 = some r) : Fn Tryz.prog 27 (Z29 a0) (.d (Z35 r)) := aQl (nW a0 h)

theorem rC (c : aO) {r : (List Int)} (h : mL c = some r) : dB Tryz.prog 45 [.cp (bX c)] [] (fun r' o' => ∃ (w0 : Value), r' = .d (.lit w0) ∧ o' = [.arr w0 3 1 (r.map aJ)]) := by
 unfold mL at h;refine iN func45 rfl (rs := [.tmp 2]) results45 ntmps45 (Nat.le_of_ble_eq_true rfl) ?_;refine aD (aB (to (fP 3 1 (.inl rfl) (aI rfl)) ?_));refine aC (aD (aB (to (fP 3 1 (.inl rfl) (aI rfl)) ?_)));refine aC (aD (aD (aB (tm (Z1 c) ?_))));obtain ⟨r3, h4, h⟩ := bns h;refine to (eQ (aI rfl) (.func _ _ call27) rfl rfl (uS _ h4)) ?_;refine to (sle rfl bZ.of) (tm (.i 0) (aC (bF ?_)));refine bY (S := Int × Z75 × Value) [0, 7, 8] (fun s5 => [(3, .d (.lit s5.2.2)), (9, .i s5.1)]) (fun s5 => [.arr s5.2.2 3 1 (s5.2.1.map aJ)]) (fun k s5 => iB c r3 (r3.length : Int) k s5.1 s5.2.1) (fun _ => rfl) (0, ([] : List Int), (.slice none 0 0)) h (aR [1] rfl rfl (aL rfl (aL rfl (aP ⟨rfl, rfl, rfl, trivial⟩)))) ?_;rintro k7 ⟨q, e, w6⟩ h;simp only [iB] at h;refine aD (aB (to (scm rfl rfl rfl) (aC (aD ?_))));refine tih h (fun c8 h => ?_) (fun c8 h => ?_)
 ·refine aV (aD (bF (aD (aB ?_))));obtain ⟨x9, y, h⟩ := bns h;refine to (six rfl rfl bZ.of (bC aJ y)) (to (slc rfl aS) (ta (.i x9) (aC (aD ?_))));obtain ⟨o, w, h⟩ := bns h;obtain ⟨A, s, h⟩ := bns h;refine cG mix 26 [0, 3, 5, 7, 8, 9] [(38, .b A)] ?_ ?_
  ·refine bch s (fun g s => ?_) (fun g s => ?_)
   ·obtain ⟨G, t, s⟩ := bns s;refine bch t (fun j t => ?_) (fun j t => ?_)
    ·obtain rfl := sIn t;obtain rfl := sIn s;refine ⟨[(13, 0, .d (.lit w6)), (14, 1, .i (e.length : Int)), (15, 2, .cp [.j c.Field.Places, .j c.Field.Wilds, .j c.Field.Guards, .j c.Field.Close, .j c.Field.Freeze, .mp true (c.players.map fun p : Int × aA => (VI p.1, aE p.2)), .sl 1 (Z17 c), .k c.frozen, .sl 1 (Z14 c), .sl 1 (Z18 c), .j c.more, .j c.entered]), (16, 3, .i o), (17, 4, .b (decide ((e.length : Int) < o))), (18, 5, .b (decide ((e.length : Int) < o))), (19, 6, .cp [.j c.Field.Places, .j c.Field.Wilds, .j c.Field.Guards, .j c.Field.Close, .j c.Field.Freeze, .mp true (c.players.map fun p : Int × aA => (VI p.1, aE p.2)), .sl 1 (Z17 c), .k c.frozen, .sl 1 (Z14 c), .sl 1 (Z18 c), .j c.more, .j c.entered]), (20, 7, .cp [.j c.Field.Places, .j c.Field.Wilds, .j c.Field.Guards, .j c.Field.Close, .j c.Field.Freeze, .mp true (c.players.map fun p : Int × aA => (VI p.1, aE p.2)), .sl 1 (Z17 c), .k c.frozen, .sl 1 (Z14 c), .sl 1 (Z18 c), .j c.more, .j c.entered]), (21, 8, .cp [.mp true (c.players.map fun p : Int × aA => (VI p.1, aE p.2))]), (22, 9, .d (.mp true (c.players.map fun p : Int × aA => (VI p.1, aE p.2)))), (23, 10, .i x9), (24, 11, .agg (aE (aH x9 Z2 c.players))), (25, 12, .b ((aH x9 Z2 c.players).guard)), (26, 13, .b (!((aH x9 Z2 c.players).guard))), (27, 14, .b (!((aH x9 Z2 c.players).guard))), (28, 15, .tup []), (29, 16, .tup []), (30, 17, .tup []), (31, 18, .tup []), (32, 19, .tup []), (33, 20, .tup []), (34, 21, .tup []), (35, 22, .tup []), (36, 23, .tup []), (37, 24, .b true), (38, 25, .b (true))], ?_, ?_⟩
     · exact dk [0, 1, 0, 3, 204, 5, 6, 607, 608, 609, 6, 61011, 612, 613, 614, 15, 15, 151617, 15, 1519, 1520, 1521, 1522, 151823, 61524, 625] ⟨go (zm (.d (.lit w6))),
 go fun S hS => fJ (m := 0) (aI rfl) (aT hS rfl) rfl bZ.of,
 go (zm (Z1 c)),
 go fun S hS => fX (aI rfl) (.func _ _ call25) (ev2 (aT hS rfl) evn) rfl (BVs.refl _ _) (mW _ w) rfl,
 go (zcm rfl rfl rfl),
 go (zm (.b (decide ((e.length : Int) < o)))),
 gt g (zm (Z1 c)),
 gt g fun S hS => dZ (aI rfl) (aT hS rfl),
 gt g (zfc [.mp true (c.players.map fun p : Int × aA => (VI p.1, aE p.2))] rfl fC),
 gt g (zlc rfl jA),
 gt g (zm (.i x9)),
 gt g fun S hS => oN (enc := aE) (agg := true) (l := c.players) (z := Z2) (a := x9) (aI rfl) kL underlying67 zeroValue75 (fun _ _ => .agg (oM rfl)) (aT hS rfl) rfl rfl (aT hS rfl) (eE (kv := VI) x9),
 gt g fun S hS => aAk (aI rfl) (aT hS rfl) runUnderlying75 rfl fI rfl,
 gt g (zn rfl),
 gt g (zm (.b (!((aH x9 Z2 c.players).guard)))),
 gp j,
 gp j,
 gp j,
 gp j,
 gp j,
 gp j,
 gp j,
 gp j,
 gp j,
 gt g (zpt Z44 j),
 go (zpt (.b (true)) g), trivial⟩
     · exact bP (aL rfl (aP ⟨rfl, rfl, rfl, rfl, rfl, rfl, trivial⟩))
    ·obtain ⟨u, B, t⟩ := bns t;obtain rfl := sIn t;obtain rfl := sIn s;refine ⟨[(13, 0, .d (.lit w6)), (14, 1, .i (e.length : Int)), (15, 2, .cp [.j c.Field.Places, .j c.Field.Wilds, .j c.Field.Guards, .j c.Field.Close, .j c.Field.Freeze, .mp true (c.players.map fun p : Int × aA => (VI p.1, aE p.2)), .sl 1 (Z17 c), .k c.frozen, .sl 1 (Z14 c), .sl 1 (Z18 c), .j c.more, .j c.entered]), (16, 3, .i o), (17, 4, .b (decide ((e.length : Int) < o))), (18, 5, .b (decide ((e.length : Int) < o))), (19, 6, .cp [.j c.Field.Places, .j c.Field.Wilds, .j c.Field.Guards, .j c.Field.Close, .j c.Field.Freeze, .mp true (c.players.map fun p : Int × aA => (VI p.1, aE p.2)), .sl 1 (Z17 c), .k c.frozen, .sl 1 (Z14 c), .sl 1 (Z18 c), .j c.more, .j c.entered]), (20, 7, .cp [.j c.Field.Places, .j c.Field.Wilds, .j c.Field.Guards, .j c.Field.Close, .j c.Field.Freeze, .mp true (c.players.map fun p : Int × aA => (VI p.1, aE p.2)), .sl 1 (Z17 c), .k c.frozen, .sl 1 (Z14 c), .sl 1 (Z18 c), .j c.more, .j c.entered]), (21, 8, .cp [.mp true (c.players.map fun p : Int × aA => (VI p.1, aE p.2))]), (22, 9, .d (.mp true (c.players.map fun p : Int × aA => (VI p.1, aE p.2)))), (23, 10, .i x9), (24, 11, .agg (aE (aH x9 Z2 c.players))), (25, 12, .b ((aH x9 Z2 c.players).guard)), (26, 13, .b (!((aH x9 Z2 c.players).guard))), (27, 14, .b (!((aH x9 Z2 c.players).guard))), (28, 15, .cp [.j c.Field.Places, .j c.Field.Wilds, .j c.Field.Guards, .j c.Field.Close, .j c.Field.Freeze, .mp true (c.players.map fun p : Int × aA => (VI p.1, aE p.2)), .sl 1 (Z17 c), .k c.frozen, .sl 1 (Z14 c), .sl 1 (Z18 c), .j c.more, .j c.entered]), (29, 16, .d (.lit w6)), (30, 17, .i u), (31, 18, .cp [.j c.Field.Places, .j c.Field.Wilds, .j c.Field.Guards, .j c.Field.Close, .j c.Field.Freeze, .mp true (c.players.map fun p : Int × aA => (VI p.1, aE p.2)), .sl 1 (Z17 c), .k c.frozen, .sl 1 (Z14 c), .sl 1 (Z18 c), .j c.more, .j c.entered]), (32, 19, .cp [.j c.Field.Places, .j c.Field.Wilds, .j c.Field.Guards, .j c.Field.Close, .j c.Field.Freeze, .mp true (c.players.map fun p : Int × aA => (VI p.1, aE p.2)), .sl 1 (Z17 c), .k c.frozen, .sl 1 (Z14 c), .sl 1 (Z18 c), .j c.more, .j c.entered]), (33, 20, .cp [.j c.Field.Places, .j c.Field.Wilds, .j c.Field.Guards, .j c.Field.Close, .j c.Field.Freeze]), (34, 21, .cp [.j c.Field.Guards]), (35, 22, .i c.Field.Guards), (36, 23, .b (decide (u < c.Field.Guards))), (37, 24, .b (decide (u < c.Field.Guards))), (38, 25, .b (decide (u < c.Field.Guards)))], ?_, ?_⟩
     · exact dk [0, 1, 0, 3, 204, 5, 6, 607, 608, 609, 6, 61011, 612, 613, 614, 15, 15, 151617, 15, 1519, 1520, 1521, 1522, 151823, 61524, 625] ⟨go (zm (.d (.lit w6))),
 go fun S hS => fJ (m := 0) (aI rfl) (aT hS rfl) rfl bZ.of,
 go (zm (Z1 c)),
 go fun S hS => fX (aI rfl) (.func _ _ call25) (ev2 (aT hS rfl) evn) rfl (BVs.refl _ _) (mW _ w) rfl,
 go (zcm rfl rfl rfl),
 go (zm (.b (decide ((e.length : Int) < o)))),
 gt g (zm (Z1 c)),
 gt g fun S hS => dZ (aI rfl) (aT hS rfl),
 gt g (zfc [.mp true (c.players.map fun p : Int × aA => (VI p.1, aE p.2))] rfl fC),
 gt g (zlc rfl jA),
 gt g (zm (.i x9)),
 gt g fun S hS => oN (enc := aE) (agg := true) (l := c.players) (z := Z2) (a := x9) (aI rfl) kL underlying67 zeroValue75 (fun _ _ => .agg (oM rfl)) (aT hS rfl) rfl rfl (aT hS rfl) (eE (kv := VI) x9),
 gt g fun S hS => aAk (aI rfl) (aT hS rfl) runUnderlying75 rfl fI rfl,
 gt g (zn rfl),
 gt g (zm (.b (!((aH x9 Z2 c.players).guard)))),
 gt j (zm (Z1 c)),
 gt j (zm (.d (.lit w6))),
 gt j fun S hS => fX (aI rfl) (.func _ _ call74) (ev2 (aT hS rfl) (ev2 (aT hS rfl) evn)) rfl (.cons (.same _) (.cons (.d (bW 0 rfl (bD (f := aJ) fun _ => rfl))) .nil)) (vM _ _ B) rfl,
 gt j (zm (Z1 c)),
 gt j fun S hS => dZ (aI rfl) (aT hS rfl),
 gt j (zfc [.j c.Field.Places, .j c.Field.Wilds, .j c.Field.Guards, .j c.Field.Close, .j c.Field.Freeze] rfl kC),
 gt j (zfc [.j c.Field.Guards] rfl aBv),
 gt j (zlc rfl aS),
 gt j (zcm rfl rfl rfl),
 gt g (zpf (.b (decide (u < c.Field.Guards))) j),
 go (zpt (.b (decide (u < c.Field.Guards))) g), trivial⟩
     · exact bP (aL rfl (aP ⟨rfl, rfl, rfl, rfl, rfl, rfl, trivial⟩))
   ·obtain rfl := sIn s;refine ⟨[(13, 0, .d (.lit w6)), (14, 1, .i (e.length : Int)), (15, 2, .cp [.j c.Field.Places, .j c.Field.Wilds, .j c.Field.Guards, .j c.Field.Close, .j c.Field.Freeze, .mp true (c.players.map fun p : Int × aA => (VI p.1, aE p.2)), .sl 1 (Z17 c), .k c.frozen, .sl 1 (Z14 c), .sl 1 (Z18 c), .j c.more, .j c.entered]), (16, 3, .i o), (17, 4, .b (decide ((e.length : Int) < o))), (18, 5, .b (decide ((e.length : Int) < o))), (19, 6, .tup []), (20, 7, .tup []), (21, 8, .tup []), (22, 9, .tup []), (23, 10, .tup []), (24, 11, .tup []), (25, 12, .tup []), (26, 13, .tup []), (27, 14, .tup []), (28, 15, .tup []), (29, 16, .tup []), (30, 17, .tup []), (31, 18, .tup []), (32, 19, .tup []), (33, 20, .tup []), (34, 21, .tup []), (35, 22, .tup []), (36, 23, .tup []), (37, 24, .tup []), (38, 25, .b false)], ?_, ?_⟩
    · exact dk [0, 1, 0, 3, 204, 5, 6, 607, 608, 609, 6, 61011, 612, 613, 614, 15, 15, 151617, 15, 1519, 1520, 1521, 1522, 151823, 61524, 625] ⟨go (zm (.d (.lit w6))),
 go fun S hS => fJ (m := 0) (aI rfl) (aT hS rfl) rfl bZ.of,
 go (zm (Z1 c)),
 go fun S hS => fX (aI rfl) (.func _ _ call25) (ev2 (aT hS rfl) evn) rfl (BVs.refl _ _) (mW _ w) rfl,
 go (zcm rfl rfl rfl),
 go (zm (.b (decide ((e.length : Int) < o)))),
 gp g,
 gp g,
 gp g,
 gp g,
 gp g,
 gp g,
 gp g,
 gp g,
 gp g,
 gq,
 gq,
 gq,
 gq,
 gq,
 gq,
 gq,
 gq,
 gq,
 gp g,
 go (zpf Z12 g), trivial⟩
    · exact bP (aL rfl (aP ⟨rfl, rfl, rfl, rfl, rfl, rfl, trivial⟩))
  ·refine aC ?_;refine tih h (fun C h => ?_) (fun C h => ?_)
   ·refine aB (tm (.d (.lit w6)) (tm (.i x9) (to (gK (aI rfl) bZ rfl rfl (rows := ([x9]).map aJ) rfl (bD (f := aJ) fun _ => rfl) rfl (by decide)) ?_)));obtain ⟨E, F, h⟩ := bns h;refine bA rfl (jC (i := 0) (aI rfl) bZ rfl rfl rfl (fun _ => rfl) F rfl) ?_;rintro _ ⟨x, rfl⟩;refine ta (.d (.lit x)) ?_;refine cM ?_;refine aB (to (sar rfl rfl rfl) (tm (.i (w64 (q + 1))) (aC ?_)));exact ⟨(w64 (q + 1), E, x), h, aR [0] rfl rfl (aL rfl (aL rfl (aP ⟨rfl, rfl, rfl, trivial⟩)))⟩
   ·refine cK ?_;refine aB (to (sar rfl rfl rfl) (tm (.i (w64 (q + 1))) (aC ?_)));exact ⟨(w64 (q + 1), e, w6), h, aR [0] rfl rfl (aL rfl (aL rfl (aP ⟨rfl, rfl, rfl, trivial⟩)))⟩
 ·refine cE ?_;refine .inl ⟨rfl, ?_⟩;simp only [rB] at h;refine aD (aB (tm (.d (.lit w6)) (ta (.d (.lit w6)) (aC ?_))));obtain rfl := sIn h;exact cS ⟨rfl, _, [.arr w6 3 1 (e.map aJ)], [], _, .one (.tmp 2 (v := .d (.lit w6)) rfl), .refl _, .same _, w6, rfl, rfl⟩

theorem sA (a : aO) {r : aO} {k m : Nat} {b : Nat} {e : List Nat} {g : Nat} {c : Value} {j : Value} {d : Value} (h : mJ a = some r) : dB Tryz.prog 71 [.bp k m 0] (Z10 k m a b c j d e g) (fun r' o' => ∃ (o : List Nat) (q : Nat) (w2 : Value) (w4 : Value) (w5 : Value), r' = .tup [] ∧ o' = [.box k m [.j r.Field.Places, .j r.Field.Wilds, .j r.Field.Guards, .j r.Field.Close, .j r.Field.Freeze, .lit (.map (some b)), .lit w2, .k r.frozen, .lit w4, .lit w5, .j r.more, .j r.entered], .map b (r.players.map fun p : Int × aA => (VI p.1, (fun v : aA => AV.agg (aE v)) p.2)) o q, .arr w2 3 1 (Z17 r), .arr w4 3 1 (Z14 r), .arr w5 3 1 (Z18 r)]) := by
 unfold mJ at h;refine iV func71 rfl (rs := []) results71 ntmps71 (Nat.le_of_ble_eq_true rfl) ?_;refine aD (aB (tm (.bp k m 0) (to (bK (aI rfl) rfl) ?_)));refine tfl 0 rfl rfl vS rfl fI (to (sn rfl) (aC ?_));refine tih h (fun c1 h => ?_) (fun c1 h => ?_)
 ·refine aB (tm (.bp k m 0) (tm (.bp k m 0) (tm (.bp k m 0) ?_)));obtain ⟨r2, h3, h⟩ := bns h;refine bA rfl (tO (aI rfl) (.func _ _ call45) rfl rfl (.cons (eM 0 rfl rfl (dvc (.same _) (dvc (.same _) (dvc (.same _) (dvc (.same _) (dvc (.same _) (dvc (lV (kv := VI) (av := (fun v : aA => AV.agg (aE v))) (l := a.players) (enc := aE) (agg := true) 1 rfl (fun h => by cases h) (fun _ => rfl)) (dvc (bW 2 rfl (bD (f := aJ) fun _ => rfl)) (dvc (.same _) (dvc (bW 3 rfl (bD (f := aJ) fun _ => rfl)) (dvc (bW 4 rfl (bD (f := aJ) fun _ => rfl)) (dvc (.same _) (dvc (.same _) dvn))))))))))))) .nil) (rC _ h3) (mP (fun _ => rfl) _)) ?_;rintro _ ⟨v4, rfl⟩;refine to (bK (aI rfl) rfl) ?_;refine to (sf rfl yU) (to (sst 0 rfl rfl sizeOf28 [.j a.Field.Places, .j a.Field.Wilds, .j a.Field.Guards, .j a.Field.Close, .j a.Field.Freeze, .lit (.map (some b)), .lit c, .k a.frozen, .lit v4, .lit d, .j a.more, .j a.entered]) (to (bK (aI rfl) rfl) ?_));refine to (sf rfl vS) (to (sst 0 rfl rfl sizeOf4 [.j a.Field.Places, .j a.Field.Wilds, .j a.Field.Guards, .j a.Field.Close, .j a.Field.Freeze, .lit (.map (some b)), .lit c, .k true, .lit v4, .lit d, .j a.more, .j a.entered]) (aC ?_));obtain rfl := sIn h;exact ⟨_, [.box k m [.j a.Field.Places, .j a.Field.Wilds, .j a.Field.Guards, .j a.Field.Close, .j a.Field.Freeze, .lit (.map (some b)), .lit c, .k true, .lit v4, .lit d, .j a.more, .j a.entered], .map b (a.players.map fun p : Int × aA => (VI p.1, (fun v : aA => AV.agg (aE v)) p.2)) e g, .arr c 3 1 (Z17 a), .arr v4 3 1 (r2.map aJ), .arr d 3 1 (Z18 a)], [.arr j 3 1 (Z14 a)], _, .none, (dQ (i := 0) rfl).trans (.cons _ ((dQ (i := 0) rfl).trans (.cons _ ((dQ (i := 0) rfl).trans (.cons _ ((dQ (i := 2) rfl).trans (.cons _ ((dQ (i := 1) rfl).trans (.cons _ ((dQ (i := 0) rfl).trans (.cons _ (.refl _)))))))))))), .same _, e, g, c, v4, d, rfl, rfl⟩
 ·refine aV ?_;obtain rfl := sIn h;exact ⟨_, (Z10 k m a b c j d e g), [], _, .none, .refl _, .same _, e, g, c, j, d, rfl, rfl⟩

theorem tP (e : List Int) (g : Int → Option Bool) {r : Int} (c : Nat) (f : List AV) (j : ∀ args w, (callFunc c args).run Tryz.prog w = .ok (.enter c args) w) (l : ∀ (x0 : Int) r, g x0 = some r → Fn Tryz.prog c ([.i x0] ++ f) (.b r)) (h : jF e g = some r) : Fn Tryz.prog 76 [.d (Z35 e), .fn c f] (.i r) := by
 unfold jF at h;refine oT [.tmp 4] func76 results76 ntmps76 ?_;refine aD (aB (ta (.i 0) (aC (aD (aD (aB (tm (.d (Z35 e)) (to (sle rfl bZ.of) (tm (.i 0) (aC (bF ?_)))))))))));refine bY (S := Int) [0, 1, 7] (fun s1 => [(8, .i s1)]) (fun s1 => []) (fun k s1 => gX e g (e.length : Int) k s1) (fun _ => rfl) (0) h (aR [] rfl rfl (aL rfl (aP ⟨rfl, rfl, rfl, trivial⟩))) ?_;rintro k2 a h;simp only [gX] at h;refine aD (aB (to (scm rfl rfl rfl) (aC (aD ?_))));refine tih h (fun c3 h => ?_) (fun c3 h => ?_)
 ·refine aV (aD (bF (aD (aB (tm (.i a) (ta (.i a) (aC (aD (aB (tm (.fn c f) (tm (.d (Z35 e)) (tm (.i a) ?_))))))))))));obtain ⟨x4, h5, h⟩ := bns h;refine to (six rfl rfl bZ.of (bC aJ h5)) (to (slc rfl aS) ?_);obtain ⟨r6, h7, h⟩ := bns h;refine to (fX (aI rfl) (.clo _ _ _ _ j rfl) (yN rfl) rfl (BVs.refl _ _) (l _ _  h7) rfl) ?_;refine aC ?_;refine tih h (fun c8 h => ?_) (fun c8 h => ?_)
  ·refine aD (aB (tm (.i a) (ta (.i a) (aC ?_))));obtain rfl := sIn h;exact rt
  ·refine cK ?_;refine aB (to (sar rfl rfl rfl) (tm (.i (w64 (a + 1))) (aC ?_)));exact ⟨(w64 (a + 1)), h, aR [] rfl rfl (aL rfl (aP ⟨rfl, rfl, rfl, trivial⟩))⟩
 ·refine cE ?_;refine .inl ⟨rfl, ?_⟩;simp only [pJ] at h;refine aD (aB (ta (.i (-1)) (aC ?_)));obtain rfl := sIn h;exact rt

theorem gW (t : List Int) (s : Int → Option Bool) {r : (List Int)} {a : Value} (e : Nat) (j : List AV) (o : ∀ args w, (callFunc e args).run Tryz.prog w = .ok (.enter e args) w) (p : ∀ (x0 : Int) r, s x0 = some r → Fn Tryz.prog e ([.i x0] ++ j) (.b r)) (h : dE t s = some r) : dB Tryz.prog 47 [.d (.lit a), .fn e j] [.arr a 3 1 (t.map aJ)] (fun r' o' => ∃ w0 : Value, r' = .d (.lit w0) ∧ o' = [.arr w0 3 1 (r.map aJ)]) := by
 unfold dE at h;refine iN func47 rfl (rs := [.tmp 4]) results47 ntmps47 (Nat.le_of_ble_eq_true rfl) ?_;refine aD (aB (to (fP 3 1 (.inl rfl) (aI rfl)) ?_));refine aC (aD (aB (tm (Z39 a) (tm (.fn e j) ?_))));obtain ⟨r2, h3, h⟩ := bns h;refine to (sc call76 (tP _ _ e j o p h3) (.cons (.d (bW 0 rfl (bD (f := aJ) fun _ => rfl))) (.cons (.same _) .nil))) (ta (.i r2) (aC (aD (aD (aB (tm (.i r2) (to (scm rfl rfl rfl) (aC ?_))))))));refine tih h (fun c4 h => ?_) (fun c4 h => ?_)
 ·refine aD (aB (tm (Z39 a) (ta (Z39 a) (aC ?_))));obtain rfl := sIn h;exact cS ⟨rfl, _, [.arr a 3 1 (t.map aJ)], Z30, _, .one (.tmp 4 (v := .d (.lit a)) rfl), .refl _, .same _, a, rfl, rfl⟩
 ·refine aV (aD (aD (aB (tm (.i r2) (to (sar rfl rfl rfl) (ta (.i (w64 (r2 + 1))) (aC (bF ?_))))))));refine bY (S := Int × Int × Z75) [1] (fun s5 => [(0, .d (.lit a)), (5, .i s5.1), (6, .i s5.2.1)]) (fun s5 => [.arr a 3 1 (s5.2.2.map aJ)]) (fun k s5 => fE s k s5.1 s5.2.1 s5.2.2) (fun _ => rfl) (r2, w64 (r2 + 1), t) h (aR [0] rfl rfl (aL rfl (aL rfl (aL rfl (aP ⟨rfl, trivial⟩))))) ?_;rintro k6 ⟨c, g, n⟩ h;simp only [fE] at h;refine aD (aD (aB (tm (.i g) (tm (Z39 a) (to (fJ (m := 0) (aI rfl) rfl rfl bZ.of) ?_)))));refine to (scm rfl rfl rfl) (aC ?_);refine tih h (fun c7 h => ?_) (fun c7 h => ?_)
  ·refine aV (aD (bF (aD (aB (tm (Z39 a) (tm (.i g) ?_))))));obtain ⟨x8, h9, h⟩ := bns h;refine to (iX (m := 0) (aI rfl) rfl rfl rfl bZ.of (bC aJ h9)) ?_;refine to (xC (aI rfl) rfl (m := 0) rfl (dN aJ h9) rfl aS) ?_;refine ta (.i x8) (aC (aD (aB (tm (.fn e j) (tm (.i x8) ?_)))));obtain ⟨C, x, h⟩ := bns h;refine to (fX (aI rfl) (.clo _ _ _ _ o rfl) (yN rfl) rfl (BVs.refl _ _) (p _ _  x) rfl) ?_;refine to (sn rfl) (aC ?_);refine tih h (fun y h => ?_) (fun y h => ?_)
   ·refine aD (aB (tm (Z39 a) (tm (.i c) (tm (.i x8) ?_))));obtain ⟨E, u, h⟩ := bns h;refine to (iX (m := 0) (aI rfl) rfl rfl rfl bZ.of (bC aJ u)) ?_;refine to (kM (l := 0) rfl rfl (dN aJ u) rfl rfl rfl sizeOf3 rfl (aI rfl) (Nat.le_of_ble_eq_true rfl) (rows' := ((n.set c.toNat x8)).map aJ) (oS _ _ _ _ rfl)) ?_;refine aC (aB (tm (.i c) (to (sar rfl rfl rfl) (ta (.i (w64 (c + 1))) ?_))));refine cM ?_;refine aB (tm (.i g) (to (sar rfl rfl rfl) (ta (.i (w64 (g + 1))) (aC ?_))));exact ⟨(w64 (c + 1), w64 (g + 1), (n.set c.toNat x8)), h, aR [0] rfl rfl (aL rfl (aL rfl (aL rfl (aP ⟨rfl, trivial⟩))))⟩
   ·refine cK ?_;refine aB (tm (.i g) (to (sar rfl rfl rfl) (ta (.i (w64 (g + 1))) (aC ?_))));exact ⟨(c, w64 (g + 1), n), h, aR [0] rfl rfl (aL rfl (aL rfl (aL rfl (aP ⟨rfl, trivial⟩))))⟩
  ·refine cE ?_;refine .inl ⟨rfl, ?_⟩;simp only [pE] at h;refine aD (aB (tm (Z39 a) (tm (.i c) ?_)));obtain ⟨F, z, h⟩ := bns h;refine to (sS (m := 0) (aI rfl) rfl rfl rfl bZ.of z) ?_;obtain ⟨G, A, h⟩ := bns h;refine to (aGj (f := aJ) (m := 0) bZ rfl rfl A (by decide)) ?_;refine aC (aD (aB (tm (Z39 a) (tm (.i c) ?_))));obtain ⟨H, B, h⟩ := bns h;refine to (sR (m := 0) (q := c.toNat) (v := a) (aI rfl) rfl rfl rfl rfl (aDd B) bZ.of) ?_;refine ta (.d (.lit (gM a c.toNat))) (aC ?_);obtain rfl := sIn h;exact cS ⟨rfl, _, [.arr (gM a c.toNat) 3 1 ((n.take c.toNat).map aJ)], [], _, .one (.tmp 4 (v := .d (.lit (gM a c.toNat))) rfl), .refl _, .same _, (gM a c.toNat), rfl, rfl⟩

theorem pG (a : Int) (c : aN) {r : Bool} (h : fV a c = some r) : Fn Tryz.prog 96 [.i a, .cp (aK c)] (.b r) := by
 unfold fV at h;refine oT [.tmp 3] func96 results96 ntmps96 ?_;refine aD (aB (ta Z12 (aC (aD (aB (tm (.i a) (to (sfc [.j c.Player] rfl fB) (to (slc rfl aS) (to (scm rfl rfl rfl) (ta (.b (decide (a = c.Player))) (aC ?_)))))))))));obtain rfl := sIn h;exact rt

theorem xQ (c : aO) (e : aN) {r : aO} {o q : Nat} {g : Nat} {y : List Nat} {j : Nat} {u : Value} {s : Value} {t : Value} (h : lX c e = some r) : dB Tryz.prog 72 [.bp o q 0, .agg (aK e)] (Z10 o q c g u s t y j) (fun r' o' => ∃ (a5 : List Nat) (a6 : Nat) (w2 : Value) (w4 : Value) (w5 : Value), r' = .tup [] ∧ o' = [.box o q [.j r.Field.Places, .j r.Field.Wilds, .j r.Field.Guards, .j r.Field.Close, .j r.Field.Freeze, .lit (.map (some g)), .lit w2, .k r.frozen, .lit w4, .lit w5, .j r.more, .j r.entered], .map g (r.players.map fun p : Int × aA => (VI p.1, (fun v : aA => AV.agg (aE v)) p.2)) a5 a6, .arr w2 3 1 (Z17 r), .arr w4 3 1 (Z14 r), .arr w5 3 1 (Z18 r)]) := by
 unfold lX at h;refine iV func72 rfl (rs := []) results72 ntmps72 (Nat.le_of_ble_eq_true rfl) ?_;refine aD (aB ?_);refine bA rfl (eN (v := .agg (aK e)) (aI rfl) rfl rfl rfl) ?_;rintro _ ⟨b1, rfl⟩;refine aC (aD ?_);refine jP mix 8 [0, 3] (fun X2 => [(4, .bp (X2 7).b 0 0), (11, .agg (Z63 e c))]) (fun X2 => [.box o q [.j c.Field.Places, .j c.Field.Wilds, .j c.Field.Guards, .j c.Field.Close, .j c.Field.Freeze, .lit (.map (some g)), .lit u, .k c.frozen, .lit s, .lit t, .j c.more, .j c.entered], .map g (c.players.map fun p : Int × aA => (VI p.1, (fun v : aA => AV.agg (aE v)) p.2)) y j, .arr u 3 1 (Z17 c), .arr s 3 1 (Z14 c), .arr t 3 1 (Z18 c), .box b1 0 (aK e), .box (X2 7).b 0 (aE Z2)]) ?_ ?_
 ·refine ⟨1, fun X2 => [(5, 0, .bp o q 0), (6, 1, .bp o q 0), (7, 2, .bp o q 5), (8, 3, .d (Z19 g)), (9, 4, .bp b1 0 3), (10, 5, .i e.Player), (11, 6, .agg (Z63 e c)), (4, 7, .bp (X2 7).b 0 0)], fun X2 => [([], .box o q [.j c.Field.Places, .j c.Field.Wilds, .j c.Field.Guards, .j c.Field.Close, .j c.Field.Freeze, .lit (.map (some g)), .lit u, .k c.frozen, .lit s, .lit t, .j c.more, .j c.entered]), ([], .map g (c.players.map fun p : Int × aA => (VI p.1, (fun v : aA => AV.agg (aE v)) p.2)) y j), ([], .arr u 3 1 (Z17 c)), ([], .arr s 3 1 (Z14 c)), ([], .arr t 3 1 (Z18 c)), ([], .box b1 0 (aK e)), ([(7, .box (X2 7).b 0 (aE Z2))], nob)], ?_, ?_⟩
  · exact xok [(0, 0), (1, 0), (2, 0), (3, 0), (0, 0), (5, 0), (406, 0), (0, 0)] ⟨fun _ _ w _ k => xp w (ym k (.bp o q 0)),
 fun _ _ w _ k => xp w (bK (aI rfl) (aT k rfl)),
 fun _ _ w _ k => xp w (yf k rfl fC),
 fun _ _ w _ k => xp w (yl k 0 rfl (og k rfl rfl) rfl jA),
 fun _ _ w _ k => xp w (yf k rfl fB),
 fun _ _ w _ k => xp w (yl k 5 rfl (og k rfl rfl) rfl aS),
 fun _ _ w _ k => xp w (aSq (av := (fun v : aA => AV.agg (aE v))) (l := c.players) (z := Z2) (a := e.Player) (m := 1) (aI rfl) kL underlying67 zeroValue75 (fun _ _ => .agg (oM rfl)) (aT k rfl) (og k rfl rfl) rfl (aT k rfl) (eE (kv := VI) e.Player)),
 fun X2 S hw hi hS => qV (X := X2) (p := 6) (v := fun x => .bp x.b 0 0) (mo := fun x => .box x.b 0 (aE Z2)) hS hi rfl rfl (fun _ => rfl) hw (fun _ => rfl) (fun _ => rfl) (fun _ => rfl) (fun _ => ⟨rfl, rfl, .inr rfl, ⟨rfl, rfl, .inr rfl, ⟨rfl, rfl, .inr rfl, ⟨rfl, rfl, .inr rfl, ⟨rfl, rfl, .inr rfl, ⟨rfl, rfl, .inr rfl, ⟨rfl, rfl, .inr rfl, ⟨rfl, rfl, .inl rfl, trivial⟩⟩⟩⟩⟩⟩⟩⟩) (fun _ => ⟨trivial, rfl, ⟨trivial, rfl, ⟨trivial, rfl, ⟨trivial, rfl, ⟨trivial, rfl, ⟨trivial, rfl, ⟨⟨rfl, .inl rfl, trivial⟩, rfl, trivial⟩⟩⟩⟩⟩⟩⟩) (lQ (eA (zs := [.k false, .k false, .j 0, .j 0, .k false, .k false, .k false, .k false]) (aI rfl) zeroValue75 rfl rfl) (by rintro _ ⟨w, rfl⟩; exact ⟨⟨w, undef⟩, aR [0, 1, 2, 3, 4, 5, 7] rfl rfl (le_refl _)⟩)), trivial⟩
  · exact fun X2 => bP (aL rfl (aL rfl (aP ⟨rfl, rfl, trivial⟩)))
 ·intro X2;refine to (sst 6 rfl rfl sizeOf75 (Z63 e c)) (aC (aD (aD (aB (tfl 5 rfl rfl yT rfl aS (aC (bF (aD (aD (aB (to (scm rfl rfl rfl) (ta (.b (decide (e.Kind = 1))) ?_))))))))))));refine aC ?_;refine tih h (fun c3 h => ?_) (fun c3 h => ?_)
  ·refine aV ?_;refine tih h (fun c4 h => ?_) (fun c4 h => ?_)
   ·refine aD ?_;refine cG mix 7 [0, 3, 4] [(18, .i e.Hour), (23, .i c.Field.Close)] ?_ ?_
    ·refine ⟨[(17, 0, .bp b1 0 1), (18, 1, .i e.Hour), (19, 2, .bp o q 0), (20, 3, .bp o q 0), (21, 4, .bp o q 0), (22, 5, .bp o q 3), (23, 6, .i c.Field.Close)], ?_, ?_⟩
     · exact dk [0, 1, 0, 3, 4, 5, 6] ⟨go (zf rfl gV),
 go (zl 5 rfl rfl rfl aS),
 go (zm (.bp o q 0)),
 go fun S hS => bK (aI rfl) (aT hS rfl),
 go (zf rfl kC),
 go (zf rfl sK),
 go (zl 0 rfl rfl rfl aS), trivial⟩
     · exact bP (aL rfl (aL rfl (aP ⟨rfl, rfl, rfl, trivial⟩)))
    ·refine to (scm rfl rfl rfl) (tm (.b (decide (e.Hour ≤ c.Field.Close))) ?_);obtain ⟨b5, h6, h⟩ := bns h;refine aZ 4 [0, 3, 4] 29 b5 ?_ ?_
     ·refine bch h6 (fun c9 h6 => ?_) (fun c9 h6 => ?_)
      ·refine tkl 6 c9 rfl rfl yW rfl fI (tk c9 (sn rfl) (to (spt (.b (!((Z0 e c).entered))) c9) ?_));obtain rfl := sIn h6;refine aC (aQ rfl ⟨rfl, rfl, rfl, trivial⟩ rfl)
      ·refine tp c9 (tp c9 (tp c9 (to (spf Z12 c9) ?_)));obtain rfl := sIn h6;refine aC (aQ rfl ⟨rfl, rfl, rfl, trivial⟩ rfl)
     ·refine aC ?_;refine tih h (fun c7 h => ?_) (fun c7 h => ?_)
      ·refine aD (aB (tm (.bp o q 0) (to (bK (aI rfl) rfl) ?_)));refine tfl 0 rfl rfl vU rfl aS (to (sar rfl rfl rfl) (to (bK (aI rfl) rfl) ?_));refine to (sf rfl vU) (to (sst 0 rfl rfl sizeOf3 [.j c.Field.Places, .j c.Field.Wilds, .j c.Field.Guards, .j c.Field.Close, .j c.Field.Freeze, .lit (.map (some g)), .lit u, .k c.frozen, .lit s, .lit t, .j c.more, .j (Z51 c)]) (aC ?_));refine jP mix 15 [0, 3, 4] (fun X8 => [(45, .i (Z51 c))]) (fun X8 => [.box o q [.j c.Field.Places, .j c.Field.Wilds, .j c.Field.Guards, .j c.Field.Close, .j c.Field.Freeze, .lit (.map (some g)), .lit u, .k c.frozen, .lit s, .lit t, .j c.more, .j (Z51 c)], .map g (c.players.map fun p : Int × aA => (VI p.1, (fun v : aA => AV.agg (aE v)) p.2)) y j, .arr u 3 1 (Z17 c), .arr s 3 1 (Z14 c), .arr t 3 1 (Z18 c), .box b1 0 (aK e), .box (X2 7).b 0 (Z13 e c)]) ?_ ?_
       ·refine ⟨0, fun X8 => [(37, 0, .bp b1 0 2), (38, 1, .i e.Kind), (39, 2, .b (Z76 e)), (40, 3, .bp b1 0 4), (41, 4, .i e.Rank), (42, 5, .bp o q 0), (43, 6, .bp o q 0), (44, 7, .bp o q 11), (45, 8, .i (Z51 c)), (46, 9, .bp (X2 7).b 0 0), (47, 11, .bp (X2 7).b 0 1), (48, 13, .bp (X2 7).b 0 2)], fun X8 => [([], .box o q [.j c.Field.Places, .j c.Field.Wilds, .j c.Field.Guards, .j c.Field.Close, .j c.Field.Freeze, .lit (.map (some g)), .lit u, .k c.frozen, .lit s, .lit t, .j c.more, .j (Z51 c)]), ([], .map g (c.players.map fun p : Int × aA => (VI p.1, (fun v : aA => AV.agg (aE v)) p.2)) y j), ([], .arr u 3 1 (Z17 c)), ([], .arr s 3 1 (Z14 c)), ([], .arr t 3 1 (Z18 c)), ([], .box b1 0 (aK e)), ([(14, .box (X2 7).b 0 (Z13 e c)), (12, .box (X2 7).b 0 (Z23 e c)), (10, .box (X2 7).b 0 (Z25 e c))], .box (X2 7).b 0 (Z63 e c))], ?_, ?_⟩
        · exact xok [(0, 1315), (1, 1315), (2, 1315), (0, 15), (4, 15), (0, 0), (6, 0), (7, 0), (8, 0), (0, 111315), (10, 1315), (11, 1315), (31112, 15), (1113, 15), (5111314, 0)] ⟨fun _ _ w _ k => xp w (yf k rfl yT),
 fun _ _ w _ k => xp w (yl k 5 rfl (og k rfl rfl) rfl aS),
 fun _ _ w _ k => xp w (ycm k rfl rfl rfl),
 fun _ _ w _ k => xp w (yf k rfl oA),
 fun _ _ w _ k => xp w (yl k 5 rfl (og k rfl rfl) rfl aS),
 fun _ _ w _ k => xp w (ym k (.bp o q 0)),
 fun _ _ w _ k => xp w (bK (aI rfl) (aT k rfl)),
 fun _ _ w _ k => xp w (yf k rfl vU),
 fun _ _ w _ k => xp w (yl k 0 rfl (og k rfl rfl) rfl aS),
 fun _ _ w _ k => xp w (yf k rfl yW),
 fun _ _ _ _ k => xs 6 k rfl rfl (mE (i := 6) (aT k rfl) (og k rfl rfl) rfl rfl rfl sizeOf4 rfl (aI rfl) (Nat.le_of_ble_eq_true rfl) (ds' := (Z25 e c)) rfl),
 fun _ _ w _ k => xp w (yf k rfl yX),
 fun _ _ _ _ k => xs 6 k rfl rfl (mE (i := 6) (aT k rfl) (og k rfl rfl) (aT k rfl) rfl rfl sizeOf4 rfl (aI rfl) (Nat.le_of_ble_eq_true rfl) (ds' := (Z23 e c)) rfl),
 fun _ _ w _ k => xp w (yf k rfl vV),
 fun _ _ _ _ k => xs 6 k rfl rfl (mE (i := 6) (aT k rfl) (og k rfl rfl) (aT k rfl) rfl rfl sizeOf3 rfl (aI rfl) (Nat.le_of_ble_eq_true rfl) (ds' := (Z13 e c)) rfl), trivial⟩
        · exact fun X8 => bP (aL rfl (aP ⟨rfl, rfl, rfl, trivial⟩))
       ·intro X8;refine to (sf rfl aBw) (to (sst 6 rfl rfl sizeOf3 (aE (Z7 e c))) ?_);refine cM ?_;refine cG mix 7 [] [(134, .d (Z19 g)), (136, .i e.Player), (137, .agg (aE (Z7 e c)))] ?_ ?_
        ·refine ⟨[(131, 0, .bp o q 0), (132, 1, .bp o q 0), (133, 2, .bp o q 5), (134, 3, .d (Z19 g)), (135, 4, .bp b1 0 3), (136, 5, .i e.Player), (137, 6, .agg (aE (Z7 e c)))], ?_, ?_⟩
         · exact dk [0, 1, 2, 3, 0, 5, 0] ⟨go (zm (.bp o q 0)),
 go fun S hS => bK (aI rfl) (aT hS rfl),
 go (zf rfl fC),
 go (zl 0 rfl rfl rfl jA),
 go (zf rfl fB),
 go (zl 5 rfl rfl rfl aS),
 go (zla 6 (aE (Z7 e c)) rfl rfl mS), trivial⟩
         · exact bP (aL rfl (aL rfl (aL rfl (aP trivial))))
        ·refine to (gE (av := (fun v : aA => AV.agg (aE v))) (l := c.players) (v := (Z7 e c)) (a := e.Player) (m := 1) kL underlying67 rfl rfl rfl rfl (eE (kv := VI) e.Player) rfl rfl) ?_;refine aC ?_;obtain rfl := sIn h;exact ⟨_, (Z36 o q c g u s t e y j), [.box b1 0 (aK e), .box (X2 7).b 0 (aE (Z7 e c))], _, .none, .refl _, .same _, (Z27 e c y j), (Z26 e c j), u, s, t, rfl, rfl⟩
      ·refine cK ?_;refine cG mix 7 [] [(134, .d (Z19 g)), (136, .i e.Player), (137, .agg (Z63 e c))] ?_ ?_
       ·refine ⟨[(131, 0, .bp o q 0), (132, 1, .bp o q 0), (133, 2, .bp o q 5), (134, 3, .d (Z19 g)), (135, 4, .bp b1 0 3), (136, 5, .i e.Player), (137, 6, .agg (Z63 e c))], ?_, ?_⟩
        · exact dk [0, 1, 2, 3, 0, 5, 0] ⟨go (zm (.bp o q 0)),
 go fun S hS => bK (aI rfl) (aT hS rfl),
 go (zf rfl fC),
 go (zl 0 rfl rfl rfl jA),
 go (zf rfl fB),
 go (zl 5 rfl rfl rfl aS),
 go (zla 6 (Z63 e c) rfl rfl mS), trivial⟩
        · exact bP (aL rfl (aL rfl (aL rfl (aP trivial))))
       ·refine to (gE (av := (fun v : aA => AV.agg (aE v))) (l := c.players) (v := aH e.Player Z2 c.players) (a := e.Player) (m := 1) kL underlying67 rfl rfl rfl rfl (eE (kv := VI) e.Player) rfl rfl) ?_;refine aC ?_;obtain rfl := sIn h;exact ⟨_, (Z5 o q c g u s t e y j), [.box b1 0 (aK e), .box (X2 7).b 0 (Z63 e c)], _, .none, .refl _, .same _, (Z27 e c y j), (Z26 e c j), u, s, t, rfl, rfl⟩
   ·refine aD (aB (to (scm rfl rfl rfl) (ta (Z72 e) (aC ?_))));refine tih h (fun a7 h => ?_) (fun a7 h => ?_)
    ·refine aD ?_;obtain ⟨e4, Q, h⟩ := bns h;obtain ⟨e5, N, h⟩ := bns h;obtain ⟨a8, L, h⟩ := bns h;refine cG mix 31 [0, 3, 4] [(82, .b a8)] ?_ ?_
     ·refine bch Q (fun H Q => ?_) (fun H Q => ?_)
      ·obtain rfl := sIn Q;refine bch N (fun C N => ?_) (fun C N => ?_)
       ·obtain rfl := sIn N;refine bch L (fun A L => ?_) (fun A L => ?_)
        ·obtain rfl := sIn L;refine ⟨[(52, 0, .bp b1 0 1), (53, 1, .i e.Hour), (54, 2, .bp o q 0), (55, 3, .bp o q 0), (56, 4, .bp o q 0), (57, 5, .bp o q 4), (58, 6, .i c.Field.Freeze), (59, 7, .b (Z15 e c)), (60, 8, .b (Z15 e c)), (61, 9, .bp (X2 7).b 0 6), (62, 10, .b (Z32 e c)), (63, 11, .b (!(Z32 e c))), (64, 12, .b (!(Z32 e c))), (65, 13, .b (!(Z32 e c))), (66, 14, .bp (X2 7).b 0 4), (67, 15, .b (Z52 e c)), (68, 16, .b (!(Z52 e c))), (69, 17, .b (!(Z52 e c))), (70, 18, .b (!(Z52 e c))), (71, 19, .bp o q 0), (72, 20, .bp o q 0), (73, 21, .bp o q 6), (74, 22, .d (.lit u)), (75, 23, .i (c.wilds.length : Int)), (76, 24, .bp o q 0), (77, 25, .bp o q 0), (78, 26, .bp o q 0), (79, 27, .bp o q 1), (80, 28, .i c.Field.Wilds), (81, 29, .b (Z37 c)), (82, 30, .b (Z37 c))], ?_, ?_⟩
         · exact dk [0, 1, 0, 3, 4, 5, 6, 207, 8, 9, 910, 911, 912, 13, 14, 1415, 1416, 1417, 18, 19, 1920, 1921, 1922, 1923, 19, 1925, 1926, 1927, 1928, 192429, 1930] ⟨go (zf rfl gV),
 go (zl 5 rfl rfl rfl aS),
 go (zm (.bp o q 0)),
 go fun S hS => bK (aI rfl) (aT hS rfl),
 go (zf rfl kC),
 go (zf rfl lI),
 go (zl 0 rfl rfl rfl aS),
 go (zcm rfl rfl rfl),
 go (zm (.b (Z15 e c))),
 gt H (zf rfl kR),
 gt H (zl 6 rfl rfl rfl fI),
 gt H (zn rfl),
 go (zpt (Z67 e c) H),
 go (zm (Z67 e c)),
 gt C (zf rfl rF),
 gt C (zl 6 rfl rfl rfl fI),
 gt C (zn rfl),
 go (zpt (.b (!(Z52 e c))) C),
 go (zm (.b (!(Z52 e c)))),
 gt A (zm (.bp o q 0)),
 gt A fun S hS => bK (aI rfl) (aT hS rfl),
 gt A (zf rfl lJ),
 gt A (zl 0 rfl rfl rfl dA),
 gt A fun S hS => fJ (m := 2) (aI rfl) (aT hS rfl) rfl bZ.of,
 gt A (zm (.bp o q 0)),
 gt A fun S hS => bK (aI rfl) (aT hS rfl),
 gt A (zf rfl kC),
 gt A (zf rfl aBu),
 gt A (zl 0 rfl rfl rfl aS),
 gt A (zcm rfl rfl rfl),
 go (zpt (.b (Z37 c)) A), trivial⟩
         · exact bP (aL rfl (aP ⟨rfl, rfl, rfl, trivial⟩))
        ·obtain rfl := sIn L;refine ⟨[(52, 0, .bp b1 0 1), (53, 1, .i e.Hour), (54, 2, .bp o q 0), (55, 3, .bp o q 0), (56, 4, .bp o q 0), (57, 5, .bp o q 4), (58, 6, .i c.Field.Freeze), (59, 7, .b (Z15 e c)), (60, 8, .b (Z15 e c)), (61, 9, .bp (X2 7).b 0 6), (62, 10, .b (Z32 e c)), (63, 11, .b (!(Z32 e c))), (64, 12, .b (!(Z32 e c))), (65, 13, .b (!(Z32 e c))), (66, 14, .bp (X2 7).b 0 4), (67, 15, .b (Z52 e c)), (68, 16, .b (!(Z52 e c))), (69, 17, .b (!(Z52 e c))), (70, 18, .b (!(Z52 e c))), (71, 19, .tup []), (72, 20, .tup []), (73, 21, .tup []), (74, 22, .tup []), (75, 23, .tup []), (76, 24, .tup []), (77, 25, .tup []), (78, 26, .tup []), (79, 27, .tup []), (80, 28, .tup []), (81, 29, .tup []), (82, 30, .b false)], ?_, ?_⟩
         · exact dk [0, 1, 0, 3, 4, 5, 6, 207, 8, 9, 910, 911, 912, 13, 14, 1415, 1416, 1417, 18, 19, 1920, 1921, 1922, 1923, 19, 1925, 1926, 1927, 1928, 192429, 1930] ⟨go (zf rfl gV),
 go (zl 5 rfl rfl rfl aS),
 go (zm (.bp o q 0)),
 go fun S hS => bK (aI rfl) (aT hS rfl),
 go (zf rfl kC),
 go (zf rfl lI),
 go (zl 0 rfl rfl rfl aS),
 go (zcm rfl rfl rfl),
 go (zm (.b (Z15 e c))),
 gt H (zf rfl kR),
 gt H (zl 6 rfl rfl rfl fI),
 gt H (zn rfl),
 go (zpt (Z67 e c) H),
 go (zm (Z67 e c)),
 gt C (zf rfl rF),
 gt C (zl 6 rfl rfl rfl fI),
 gt C (zn rfl),
 go (zpt (.b (!(Z52 e c))) C),
 go (zm (.b (!(Z52 e c)))),
 gp A,
 gp A,
 gp A,
 gp A,
 gp A,
 gp A,
 gp A,
 gp A,
 gp A,
 gp A,
 gp A,
 go (zpf Z12 A), trivial⟩
         · exact bP (aL rfl (aP ⟨rfl, rfl, rfl, trivial⟩))
       ·obtain rfl := sIn N;have A : false = false := rfl;have L := nQ A L;obtain rfl := sIn L;refine ⟨[(52, 0, .bp b1 0 1), (53, 1, .i e.Hour), (54, 2, .bp o q 0), (55, 3, .bp o q 0), (56, 4, .bp o q 0), (57, 5, .bp o q 4), (58, 6, .i c.Field.Freeze), (59, 7, .b (Z15 e c)), (60, 8, .b (Z15 e c)), (61, 9, .bp (X2 7).b 0 6), (62, 10, .b (Z32 e c)), (63, 11, .b (!(Z32 e c))), (64, 12, .b (!(Z32 e c))), (65, 13, .b (!(Z32 e c))), (66, 14, .tup []), (67, 15, .tup []), (68, 16, .tup []), (69, 17, .b false), (70, 18, .b (false)), (71, 19, .tup []), (72, 20, .tup []), (73, 21, .tup []), (74, 22, .tup []), (75, 23, .tup []), (76, 24, .tup []), (77, 25, .tup []), (78, 26, .tup []), (79, 27, .tup []), (80, 28, .tup []), (81, 29, .tup []), (82, 30, .b false)], ?_, ?_⟩
        · exact dk [0, 1, 0, 3, 4, 5, 6, 207, 8, 9, 910, 911, 912, 13, 14, 1415, 1416, 1417, 18, 19, 1920, 1921, 1922, 1923, 19, 1925, 1926, 1927, 1928, 192429, 1930] ⟨go (zf rfl gV),
 go (zl 5 rfl rfl rfl aS),
 go (zm (.bp o q 0)),
 go fun S hS => bK (aI rfl) (aT hS rfl),
 go (zf rfl kC),
 go (zf rfl lI),
 go (zl 0 rfl rfl rfl aS),
 go (zcm rfl rfl rfl),
 go (zm (.b (Z15 e c))),
 gt H (zf rfl kR),
 gt H (zl 6 rfl rfl rfl fI),
 gt H (zn rfl),
 go (zpt (Z67 e c) H),
 go (zm (Z67 e c)),
 gp C,
 gp C,
 gp C,
 go (zpf Z12 C),
 go (zm Z66),
 gp A,
 gp A,
 gp A,
 gp A,
 gp A,
 gp A,
 gp A,
 gp A,
 gp A,
 gp A,
 gp A,
 go (zpf Z12 A), trivial⟩
        · exact bP (aL rfl (aP ⟨rfl, rfl, rfl, trivial⟩))
      ·obtain rfl := sIn Q;have C : false = false := rfl;have N := nQ C N;obtain rfl := sIn N;have A : false = false := rfl;have L := nQ A L;obtain rfl := sIn L;refine ⟨[(52, 0, .bp b1 0 1), (53, 1, .i e.Hour), (54, 2, .bp o q 0), (55, 3, .bp o q 0), (56, 4, .bp o q 0), (57, 5, .bp o q 4), (58, 6, .i c.Field.Freeze), (59, 7, .b (Z15 e c)), (60, 8, .b (Z15 e c)), (61, 9, .tup []), (62, 10, .tup []), (63, 11, .tup []), (64, 12, .b false), (65, 13, .b (false)), (66, 14, .tup []), (67, 15, .tup []), (68, 16, .tup []), (69, 17, .b false), (70, 18, .b (false)), (71, 19, .tup []), (72, 20, .tup []), (73, 21, .tup []), (74, 22, .tup []), (75, 23, .tup []), (76, 24, .tup []), (77, 25, .tup []), (78, 26, .tup []), (79, 27, .tup []), (80, 28, .tup []), (81, 29, .tup []), (82, 30, .b false)], ?_, ?_⟩
       · exact dk [0, 1, 0, 3, 4, 5, 6, 207, 8, 9, 910, 911, 912, 13, 14, 1415, 1416, 1417, 18, 19, 1920, 1921, 1922, 1923, 19, 1925, 1926, 1927, 1928, 192429, 1930] ⟨go (zf rfl gV),
 go (zl 5 rfl rfl rfl aS),
 go (zm (.bp o q 0)),
 go fun S hS => bK (aI rfl) (aT hS rfl),
 go (zf rfl kC),
 go (zf rfl lI),
 go (zl 0 rfl rfl rfl aS),
 go (zcm rfl rfl rfl),
 go (zm (.b (Z15 e c))),
 gp H,
 gp H,
 gp H,
 go (zpf Z12 H),
 go (zm Z66),
 gp C,
 gp C,
 gp C,
 go (zpf Z12 C),
 go (zm Z66),
 gp A,
 gp A,
 gp A,
 gp A,
 gp A,
 gp A,
 gp A,
 gp A,
 gp A,
 gp A,
 gp A,
 go (zpf Z12 A), trivial⟩
       · exact bP (aL rfl (aP ⟨rfl, rfl, rfl, trivial⟩))
     ·refine aC ?_;refine tih h (fun a9 h => ?_) (fun a9 h => ?_)
      ·refine aD (aB (to (sf rfl kR) (to (sst 6 rfl rfl sizeOf4 (Z56 e c)) (to (sf rfl aFx) (to (sst 6 rfl rfl sizeOf4 (aE (Z6 e c))) (aC ?_))))));obtain ⟨Z, b0, h⟩ := bns h;refine jP mix 9 [0, 3, 4] (fun J => [(85, .bp o q 0), (93, .d (.lit (J 8).v))]) (fun J => [.box o q [.j c.Field.Places, .j c.Field.Wilds, .j c.Field.Guards, .j c.Field.Close, .j c.Field.Freeze, .lit (.map (some g)), .lit u, .k c.frozen, .lit s, .lit t, .j c.more, .j c.entered], .map g (c.players.map fun p : Int × aA => (VI p.1, (fun v : aA => AV.agg (aE v)) p.2)) y j, .arr (J 8).v 3 1 (Z.map aJ), .arr s 3 1 (Z14 c), .arr t 3 1 (Z18 c), .box b1 0 (aK e), .box (X2 7).b 0 (aE (Z6 e c))]) ?_ ?_
       ·refine ⟨0, fun J => [(85, 0, .bp o q 0), (86, 1, .bp o q 0), (87, 2, .bp o q 0), (88, 3, .bp o q 6), (89, 4, .d (.lit u)), (90, 5, .bp b1 0 3), (91, 6, .i e.Player), (92, 7, .d (.sl 1 (([e.Player]).map aJ))), (93, 8, .d (.lit (J 8).v))], fun J => [([], .box o q [.j c.Field.Places, .j c.Field.Wilds, .j c.Field.Guards, .j c.Field.Close, .j c.Field.Freeze, .lit (.map (some g)), .lit u, .k c.frozen, .lit s, .lit t, .j c.more, .j c.entered]), ([], .map g (c.players.map fun p : Int × aA => (VI p.1, (fun v : aA => AV.agg (aE v)) p.2)) y j), ([(8, .arr (J 8).v 3 1 (Z.map aJ))], .arr u 3 1 (Z17 c)), ([], .arr s 3 1 (Z14 c)), ([], .arr t 3 1 (Z18 c)), ([], .box b1 0 (aK e)), ([], .box (X2 7).b 0 (aE (Z6 e c)))], ?_, ?_⟩
        · exact xok [(0, 0), (0, 9), (2, 9), (3, 9), (4, 9), (0, 9), (6, 9), (7, 9), (508, 0)] ⟨fun _ _ w _ k => xp w (ym k (.bp o q 0)),
 fun _ _ w _ k => xp w (ym k (.bp o q 0)),
 fun _ _ w _ k => xp w (bK (aI rfl) (aT k rfl)),
 fun _ _ w _ k => xp w (yf k rfl lJ),
 fun _ _ w _ k => xp w (yl k 0 rfl (og k rfl rfl) rfl dA),
 fun _ _ w _ k => xp w (yf k rfl fB),
 fun _ _ w _ k => xp w (yl k 5 rfl (og k rfl rfl) rfl aS),
 fun _ _ w _ k => xp w (gK (aI rfl) bZ rfl (pa2 (aT k rfl) pan) (rows := ([e.Player]).map aJ) rfl (bD (f := aJ) fun _ => rfl) rfl (by decide)),
 fun J S hw hi hS => qV (X := J) (p := 2) (v := fun x => .d (.lit x.v)) (mo := fun x => .arr x.v 3 1 (Z.map aJ)) hS hi rfl rfl (fun _ => rfl) hw (fun _ => rfl) (fun _ => rfl) (fun _ => rfl) (fun _ => ⟨rfl, rfl, .inr rfl, ⟨rfl, rfl, .inr rfl, ⟨rfl, rfl, .inr rfl, ⟨rfl, rfl, .inr rfl, ⟨rfl, rfl, .inr rfl, ⟨rfl, rfl, .inr rfl, ⟨rfl, rfl, .inr rfl, ⟨rfl, rfl, .inr rfl, ⟨rfl, rfl, .inl rfl, trivial⟩⟩⟩⟩⟩⟩⟩⟩⟩) (fun _ => ⟨trivial, rfl, ⟨trivial, rfl, ⟨⟨rfl, .inl rfl, trivial⟩, rfl, ⟨trivial, rfl, ⟨trivial, rfl, ⟨trivial, rfl, ⟨trivial, rfl, trivial⟩⟩⟩⟩⟩⟩⟩) (lQ (jC (i := 2) (aI rfl) bZ (aT hS rfl) (og hS rfl rfl) (aT hS rfl) (fun _ => rfl) b0 rfl) (by rintro _ ⟨w, rfl⟩; exact ⟨⟨0, w⟩, Ent.refl _⟩)), trivial⟩
        · exact fun J => bP (aL rfl (aL rfl (aP ⟨rfl, rfl, rfl, trivial⟩)))
       ·intro J;refine to (bK (aI rfl) rfl) ?_;refine to (sf rfl lJ) (to (sst 0 rfl rfl sizeOf28 [.j c.Field.Places, .j c.Field.Wilds, .j c.Field.Guards, .j c.Field.Close, .j c.Field.Freeze, .lit (.map (some g)), .lit (J 8).v, .k c.frozen, .lit s, .lit t, .j c.more, .j c.entered]) ?_);refine cM ?_;refine cG mix 7 [] [(134, .d (Z19 g)), (136, .i e.Player), (137, .agg (aE (Z6 e c)))] ?_ ?_
        ·refine ⟨[(131, 0, .bp o q 0), (132, 1, .bp o q 0), (133, 2, .bp o q 5), (134, 3, .d (Z19 g)), (135, 4, .bp b1 0 3), (136, 5, .i e.Player), (137, 6, .agg (aE (Z6 e c)))], ?_, ?_⟩
         · exact dk [0, 1, 2, 3, 0, 5, 0] ⟨go (zm (.bp o q 0)),
 go fun S hS => bK (aI rfl) (aT hS rfl),
 go (zf rfl fC),
 go (zl 0 rfl rfl rfl jA),
 go (zf rfl fB),
 go (zl 5 rfl rfl rfl aS),
 go (zla 6 (aE (Z6 e c)) rfl rfl mS), trivial⟩
         · exact bP (aL rfl (aL rfl (aL rfl (aP trivial))))
        ·refine to (gE (av := (fun v : aA => AV.agg (aE v))) (l := c.players) (v := (Z6 e c)) (a := e.Player) (m := 1) kL underlying67 rfl rfl rfl rfl (eE (kv := VI) e.Player) rfl rfl) ?_;refine aC ?_;obtain rfl := sIn h;exact ⟨_, [.box o q [.j c.Field.Places, .j c.Field.Wilds, .j c.Field.Guards, .j c.Field.Close, .j c.Field.Freeze, .lit (.map (some g)), .lit (J 8).v, .k c.frozen, .lit s, .lit t, .j c.more, .j c.entered], .map g ((dS e.Player (Z6 e c) c.players).map fun p : Int × aA => (VI p.1, (fun v : aA => AV.agg (aE v)) p.2)) (Z27 e c y j) (Z26 e c j), .arr (J 8).v 3 1 (Z.map aJ), .arr s 3 1 (Z14 c), .arr t 3 1 (Z18 c)], [.box b1 0 (aK e), .box (X2 7).b 0 (aE (Z6 e c))], _, .none, .refl _, .same _, (Z27 e c y j), (Z26 e c j), (J 8).v, s, t, rfl, rfl⟩
      ·refine cK ?_;refine cG mix 7 [] [(134, .d (Z19 g)), (136, .i e.Player), (137, .agg (Z63 e c))] ?_ ?_
       ·refine ⟨[(131, 0, .bp o q 0), (132, 1, .bp o q 0), (133, 2, .bp o q 5), (134, 3, .d (Z19 g)), (135, 4, .bp b1 0 3), (136, 5, .i e.Player), (137, 6, .agg (Z63 e c))], ?_, ?_⟩
        · exact dk [0, 1, 2, 3, 0, 5, 0] ⟨go (zm (.bp o q 0)),
 go fun S hS => bK (aI rfl) (aT hS rfl),
 go (zf rfl fC),
 go (zl 0 rfl rfl rfl jA),
 go (zf rfl fB),
 go (zl 5 rfl rfl rfl aS),
 go (zla 6 (Z63 e c) rfl rfl mS), trivial⟩
        · exact bP (aL rfl (aL rfl (aL rfl (aP trivial))))
       ·refine to (gE (av := (fun v : aA => AV.agg (aE v))) (l := c.players) (v := aH e.Player Z2 c.players) (a := e.Player) (m := 1) kL underlying67 rfl rfl rfl rfl (eE (kv := VI) e.Player) rfl rfl) ?_;refine aC ?_;obtain rfl := sIn h;exact ⟨_, (Z5 o q c g u s t e y j), [.box b1 0 (aK e), .box (X2 7).b 0 (Z63 e c)], _, .none, .refl _, .same _, (Z27 e c y j), (Z26 e c j), u, s, t, rfl, rfl⟩
    ·refine aD (aB (to (scm rfl rfl rfl) (ta (Z73 e) (aC ?_))));refine tih h (fun b2 h => ?_) (fun b2 h => ?_)
     ·refine aD (aD ?_);obtain ⟨b3, T, h⟩ := bns h;refine cG mix 12 [0, 3, 4] [(109, .b b3)] ?_ ?_
      ·refine bch T (fun E T => ?_) (fun E T => ?_)
       ·obtain rfl := sIn T;refine ⟨[(98, 0, .bp (X2 7).b 0 6), (99, 1, .b (Z32 e c)), (100, 2, .b (Z32 e c)), (101, 3, .bp b1 0 1), (102, 4, .i e.Hour), (103, 5, .bp o q 0), (104, 6, .bp o q 0), (105, 7, .bp o q 0), (106, 8, .bp o q 4), (107, 9, .i c.Field.Freeze), (108, 10, .b (Z55 c e)), (109, 11, .b (Z55 c e))], ?_, ?_⟩
        · exact dk [0, 1, 2, 3, 304, 3, 306, 307, 308, 309, 30510, 311] ⟨go (zf rfl kR),
 go (zl 6 rfl rfl rfl fI),
 go (zm (.b (Z32 e c))),
 gt E (zf rfl gV),
 gt E (zl 5 rfl rfl rfl aS),
 gt E (zm (.bp o q 0)),
 gt E fun S hS => bK (aI rfl) (aT hS rfl),
 gt E (zf rfl kC),
 gt E (zf rfl lI),
 gt E (zl 0 rfl rfl rfl aS),
 gt E (zcm rfl rfl rfl),
 go (zpt (.b (Z55 c e)) E), trivial⟩
        · exact bP (aL rfl (aP ⟨rfl, rfl, rfl, trivial⟩))
       ·obtain rfl := sIn T;refine ⟨[(98, 0, .bp (X2 7).b 0 6), (99, 1, .b (Z32 e c)), (100, 2, .b (Z32 e c)), (101, 3, .tup []), (102, 4, .tup []), (103, 5, .tup []), (104, 6, .tup []), (105, 7, .tup []), (106, 8, .tup []), (107, 9, .tup []), (108, 10, .tup []), (109, 11, .b false)], ?_, ?_⟩
        · exact dk [0, 1, 2, 3, 304, 3, 306, 307, 308, 309, 30510, 311] ⟨go (zf rfl kR),
 go (zl 6 rfl rfl rfl fI),
 go (zm (.b (Z32 e c))),
 gp E,
 gp E,
 gp E,
 gp E,
 gp E,
 gp E,
 gp E,
 gp E,
 go (zpf Z12 E), trivial⟩
        · exact bP (aL rfl (aP ⟨rfl, rfl, rfl, trivial⟩))
      ·refine aC ?_;refine tih h (fun b4 h => ?_) (fun b4 h => ?_)
       ·refine aB (tm (.bp o q 0) (to (bK (aI rfl) rfl) ?_));refine tfl 0 rfl rfl yV rfl aS (to (sar rfl rfl rfl) (to (bK (aI rfl) rfl) ?_));refine to (sf rfl yV) (to (sst 0 rfl rfl sizeOf3 [.j c.Field.Places, .j c.Field.Wilds, .j c.Field.Guards, .j c.Field.Close, .j c.Field.Freeze, .lit (.map (some g)), .lit u, .k c.frozen, .lit s, .lit t, .j (Z64 c), .j c.entered]) (aC (aD (aB (to (sf rfl rF) (to (sst 6 rfl rfl sizeOf4 (Z24 e c)) (to (sf rfl kR) (to (sst 6 rfl rfl sizeOf4 (Z71 e c)) (aC (aB (tm (.bp o q 0) (tm (.bp o q 0) (to (bK (aI rfl) rfl) ?_)))))))))))));refine tfl 0 rfl rfl lJ rfl dA (to (qR (aI rfl) rfl rfl) ?_);refine dR (aR [0, 1, 2, 3, 4, 6, 5] rfl rfl (le_refl _)) ?_;apply wI [.box o q [.j c.Field.Places, .j c.Field.Wilds, .j c.Field.Guards, .j c.Field.Close, .j c.Field.Freeze, .lit (.map (some g)), .lit u, .k c.frozen, .lit s, .lit t, .j (Z64 c), .j c.entered], .map g (c.players.map fun p : Int × aA => (VI p.1, (fun v : aA => AV.agg (aE v)) p.2)) y j, .arr u 3 1 (Z17 c), .arr s 3 1 (Z14 c), .arr t 3 1 (Z18 c), .box (X2 7).b 0 (Z71 e c)] [.box b1 0 (aK e)] rfl;exact dK (k := 124) (v := .fn 96 (Z21 e)) (sE (.cons (eM 0 rfl rfl (dvc (.same _) (dvc (.same _) (dvc (.same _) (dvc (.same _) (dvc (.same _) dvn)))))) .nil)) (dK (k := 3) (v := .cp [.j e.Id, .j e.Hour, .j e.Kind, .j e.Player, .j e.Rank]) (eM 0 rfl rfl (dvc (.same _) (dvc (.same _) (dvc (.same _) (dvc (.same _) (dvc (.same _) dvn)))))) (lU _ _));obtain ⟨b6, b7, h⟩ := bns h;refine dR (aR [2, 0, 1, 3, 4, 5] rfl rfl (le_refl _)) ?_;refine bA rfl (cU (passed := [.arr u 3 1 (Z17 c)]) (aI rfl) rfl (.func _ _ call47) rfl rfl (gW c.wilds (fun b8 => fV b8 e) 96 (Z21 e) call96 (fun _ _ h => pG _ _ h) b7)) ?_;rintro _ ⟨_, _, ⟨a0, rfl, rfl⟩, rfl⟩;refine to (bK (aI rfl) rfl) ?_;refine to (sf rfl lJ) (to (sst 1 rfl rfl sizeOf28 [.j c.Field.Places, .j c.Field.Wilds, .j c.Field.Guards, .j c.Field.Close, .j c.Field.Freeze, .lit (.map (some g)), .lit a0, .k c.frozen, .lit s, .lit t, .j (Z64 c), .j c.entered]) ?_);refine cM ?_;refine cG mix 7 [] [(134, .d (Z19 g)), (136, .i e.Player), (137, .agg (Z71 e c))] ?_ ?_
        ·refine ⟨[(131, 0, .bp o q 0), (132, 1, .bp o q 0), (133, 2, .bp o q 5), (134, 3, .d (Z19 g)), (135, 4, .cp [.j e.Player]), (136, 5, .i e.Player), (137, 6, .agg (Z71 e c))], ?_, ?_⟩
         · exact dk [0, 1, 2, 3, 0, 5, 0] ⟨go (zm (.bp o q 0)),
 go fun S hS => bK (aI rfl) (aT hS rfl),
 go (zf rfl fC),
 go (zl 1 rfl rfl rfl jA),
 go (zfc [.j e.Player] rfl fB),
 go (zlc rfl aS),
 go (zla 5 (Z71 e c) rfl rfl mS), trivial⟩
         · exact bP (aL rfl (aL rfl (aL rfl (aP trivial))))
        ·refine to (gE (av := (fun v : aA => AV.agg (aE v))) (l := c.players) (v := (Z3 e c)) (a := e.Player) (m := 2) kL underlying67 rfl rfl rfl rfl (eE (kv := VI) e.Player) rfl rfl) ?_;refine aC ?_;obtain rfl := sIn h;exact ⟨_, [.box o q [.j c.Field.Places, .j c.Field.Wilds, .j c.Field.Guards, .j c.Field.Close, .j c.Field.Freeze, .lit (.map (some g)), .lit a0, .k c.frozen, .lit s, .lit t, .j (Z64 c), .j c.entered], .map g ((Z79 e c).map fun p : Int × aA => (VI p.1, (fun v : aA => AV.agg (aE v)) p.2)) (Z27 e c y j) (Z26 e c j), .arr a0 3 1 (b6.map aJ), .arr s 3 1 (Z14 c), .arr t 3 1 (Z18 c)], [.box (X2 7).b 0 (Z71 e c)], _, .none, (dQ (i := 1) rfl).trans (.cons _ ((dQ (i := 1) rfl).trans (.cons _ ((dQ (i := 0) rfl).trans (.cons _ ((dQ (i := 0) rfl).trans (.cons _ ((dQ (i := 0) rfl).trans (.cons _ ((dQ (i := 0) rfl).trans (.cons _ (.refl _)))))))))))), .same _, (Z27 e c y j), (Z26 e c j), a0, s, t, rfl, rfl⟩
       ·refine aV (aD (aB (to (sf rfl rF) (to (sst 6 rfl rfl sizeOf4 (Z24 e c)) (to (sf rfl kR) (to (sst 6 rfl rfl sizeOf4 (Z71 e c)) (aC (aB (tm (.bp o q 0) (tm (.bp o q 0) (to (bK (aI rfl) rfl) ?_)))))))))));refine tfl 0 rfl rfl lJ rfl dA (to (qR (aI rfl) rfl rfl) ?_);refine dR (aR [0, 1, 2, 3, 4, 6, 5] rfl rfl (le_refl _)) ?_;apply wI [.box o q [.j c.Field.Places, .j c.Field.Wilds, .j c.Field.Guards, .j c.Field.Close, .j c.Field.Freeze, .lit (.map (some g)), .lit u, .k c.frozen, .lit s, .lit t, .j c.more, .j c.entered], .map g (c.players.map fun p : Int × aA => (VI p.1, (fun v : aA => AV.agg (aE v)) p.2)) y j, .arr u 3 1 (Z17 c), .arr s 3 1 (Z14 c), .arr t 3 1 (Z18 c), .box (X2 7).b 0 (Z71 e c)] [.box b1 0 (aK e)] rfl;exact dK (k := 124) (v := .fn 96 (Z21 e)) (sE (.cons (eM 0 rfl rfl (dvc (.same _) (dvc (.same _) (dvc (.same _) (dvc (.same _) (dvc (.same _) dvn)))))) .nil)) (dK (k := 3) (v := .cp [.j e.Id, .j e.Hour, .j e.Kind, .j e.Player, .j e.Rank]) (eM 0 rfl rfl (dvc (.same _) (dvc (.same _) (dvc (.same _) (dvc (.same _) (dvc (.same _) dvn)))))) (lU _ _));obtain ⟨b9, c0, h⟩ := bns h;refine dR (aR [2, 0, 1, 3, 4, 5] rfl rfl (le_refl _)) ?_;refine bA rfl (cU (passed := [.arr u 3 1 (Z17 c)]) (aI rfl) rfl (.func _ _ call47) rfl rfl (gW c.wilds (fun c1 => fV c1 e) 96 (Z21 e) call96 (fun _ _ h => pG _ _ h) c0)) ?_;rintro _ ⟨_, _, ⟨a1, rfl, rfl⟩, rfl⟩;refine to (bK (aI rfl) rfl) ?_;refine to (sf rfl lJ) (to (sst 1 rfl rfl sizeOf28 [.j c.Field.Places, .j c.Field.Wilds, .j c.Field.Guards, .j c.Field.Close, .j c.Field.Freeze, .lit (.map (some g)), .lit a1, .k c.frozen, .lit s, .lit t, .j c.more, .j c.entered]) ?_);refine cM ?_;refine cG mix 7 [] [(134, .d (Z19 g)), (136, .i e.Player), (137, .agg (Z71 e c))] ?_ ?_
        ·refine ⟨[(131, 0, .bp o q 0), (132, 1, .bp o q 0), (133, 2, .bp o q 5), (134, 3, .d (Z19 g)), (135, 4, .cp [.j e.Player]), (136, 5, .i e.Player), (137, 6, .agg (Z71 e c))], ?_, ?_⟩
         · exact dk [0, 1, 2, 3, 0, 5, 0] ⟨go (zm (.bp o q 0)),
 go fun S hS => bK (aI rfl) (aT hS rfl),
 go (zf rfl fC),
 go (zl 1 rfl rfl rfl jA),
 go (zfc [.j e.Player] rfl fB),
 go (zlc rfl aS),
 go (zla 5 (Z71 e c) rfl rfl mS), trivial⟩
         · exact bP (aL rfl (aL rfl (aL rfl (aP trivial))))
        ·refine to (gE (av := (fun v : aA => AV.agg (aE v))) (l := c.players) (v := (Z3 e c)) (a := e.Player) (m := 2) kL underlying67 rfl rfl rfl rfl (eE (kv := VI) e.Player) rfl rfl) ?_;refine aC ?_;obtain rfl := sIn h;exact ⟨_, [.box o q [.j c.Field.Places, .j c.Field.Wilds, .j c.Field.Guards, .j c.Field.Close, .j c.Field.Freeze, .lit (.map (some g)), .lit a1, .k c.frozen, .lit s, .lit t, .j c.more, .j c.entered], .map g ((Z79 e c).map fun p : Int × aA => (VI p.1, (fun v : aA => AV.agg (aE v)) p.2)) (Z27 e c y j) (Z26 e c j), .arr a1 3 1 (b9.map aJ), .arr s 3 1 (Z14 c), .arr t 3 1 (Z18 c)], [.box (X2 7).b 0 (Z71 e c)], _, .none, (dQ (i := 1) rfl).trans (.cons _ ((dQ (i := 1) rfl).trans (.cons _ ((dQ (i := 0) rfl).trans (.cons _ ((dQ (i := 0) rfl).trans (.cons _ ((dQ (i := 0) rfl).trans (.cons _ ((dQ (i := 0) rfl).trans (.cons _ (.refl _)))))))))))), .same _, (Z27 e c y j), (Z26 e c j), a1, s, t, rfl, rfl⟩
     ·refine aD (aB (to (scm rfl rfl rfl) (ta (Z74 e) (aC ?_))));refine tih h (fun c2 h => ?_) (fun c2 h => ?_)
      ·refine aB (to (sf rfl vW) (to (sst 6 rfl rfl sizeOf4 (aE (Z8 e c))) ?_));refine cM ?_;refine cG mix 7 [] [(134, .d (Z19 g)), (136, .i e.Player), (137, .agg (aE (Z8 e c)))] ?_ ?_
       ·refine ⟨[(131, 0, .bp o q 0), (132, 1, .bp o q 0), (133, 2, .bp o q 5), (134, 3, .d (Z19 g)), (135, 4, .bp b1 0 3), (136, 5, .i e.Player), (137, 6, .agg (aE (Z8 e c)))], ?_, ?_⟩
        · exact dk [0, 1, 2, 3, 0, 5, 0] ⟨go (zm (.bp o q 0)),
 go fun S hS => bK (aI rfl) (aT hS rfl),
 go (zf rfl fC),
 go (zl 0 rfl rfl rfl jA),
 go (zf rfl fB),
 go (zl 5 rfl rfl rfl aS),
 go (zla 6 (aE (Z8 e c)) rfl rfl mS), trivial⟩
        · exact bP (aL rfl (aL rfl (aL rfl (aP trivial))))
       ·refine to (gE (av := (fun v : aA => AV.agg (aE v))) (l := c.players) (v := (Z8 e c)) (a := e.Player) (m := 1) kL underlying67 rfl rfl rfl rfl (eE (kv := VI) e.Player) rfl rfl) ?_;refine aC ?_;obtain rfl := sIn h;exact ⟨_, (Z42 o q c g u s t e y j), [.box b1 0 (aK e), .box (X2 7).b 0 (aE (Z8 e c))], _, .none, .refl _, .same _, (Z27 e c y j), (Z26 e c j), u, s, t, rfl, rfl⟩
      ·refine cK ?_;refine cG mix 7 [] [(134, .d (Z19 g)), (136, .i e.Player), (137, .agg (Z63 e c))] ?_ ?_
       ·refine ⟨[(131, 0, .bp o q 0), (132, 1, .bp o q 0), (133, 2, .bp o q 5), (134, 3, .d (Z19 g)), (135, 4, .bp b1 0 3), (136, 5, .i e.Player), (137, 6, .agg (Z63 e c))], ?_, ?_⟩
        · exact dk [0, 1, 2, 3, 0, 5, 0] ⟨go (zm (.bp o q 0)),
 go fun S hS => bK (aI rfl) (aT hS rfl),
 go (zf rfl fC),
 go (zl 0 rfl rfl rfl jA),
 go (zf rfl fB),
 go (zl 5 rfl rfl rfl aS),
 go (zla 6 (Z63 e c) rfl rfl mS), trivial⟩
        · exact bP (aL rfl (aL rfl (aL rfl (aP trivial))))
       ·refine to (gE (av := (fun v : aA => AV.agg (aE v))) (l := c.players) (v := aH e.Player Z2 c.players) (a := e.Player) (m := 1) kL underlying67 rfl rfl rfl rfl (eE (kv := VI) e.Player) rfl rfl) ?_;refine aC ?_;obtain rfl := sIn h;exact ⟨_, (Z5 o q c g u s t e y j), [.box b1 0 (aK e), .box (X2 7).b 0 (Z63 e c)], _, .none, .refl _, .same _, (Z27 e c y j), (Z26 e c j), u, s, t, rfl, rfl⟩
  ·refine aB (to (scm rfl rfl rfl) (ta (.b (Z76 e)) (aC ?_)));refine tih h (fun c5 h => ?_) (fun c5 h => ?_)
   ·refine aD ?_;refine cG mix 7 [0, 3, 4] [(18, .i e.Hour), (23, .i c.Field.Close)] ?_ ?_
    ·refine ⟨[(17, 0, .bp b1 0 1), (18, 1, .i e.Hour), (19, 2, .bp o q 0), (20, 3, .bp o q 0), (21, 4, .bp o q 0), (22, 5, .bp o q 3), (23, 6, .i c.Field.Close)], ?_, ?_⟩
     · exact dk [0, 1, 0, 3, 4, 5, 6] ⟨go (zf rfl gV),
 go (zl 5 rfl rfl rfl aS),
 go (zm (.bp o q 0)),
 go fun S hS => bK (aI rfl) (aT hS rfl),
 go (zf rfl kC),
 go (zf rfl sK),
 go (zl 0 rfl rfl rfl aS), trivial⟩
     · exact bP (aL rfl (aL rfl (aP ⟨rfl, rfl, rfl, trivial⟩)))
    ·refine to (scm rfl rfl rfl) (tm (.b (decide (e.Hour ≤ c.Field.Close))) ?_);obtain ⟨c6, U, h⟩ := bns h;refine aZ 4 [0, 3, 4] 29 c6 ?_ ?_
     ·refine bch U (fun O U => ?_) (fun O U => ?_)
      ·refine tkl 6 O rfl rfl yW rfl fI (tk O (sn rfl) (to (spt (.b (!((Z0 e c).entered))) O) ?_));obtain rfl := sIn U;refine aC (aQ rfl ⟨rfl, rfl, rfl, trivial⟩ rfl)
      ·refine tp O (tp O (tp O (to (spf Z12 O) ?_)));obtain rfl := sIn U;refine aC (aQ rfl ⟨rfl, rfl, rfl, trivial⟩ rfl)
     ·refine aC ?_;refine tih h (fun c8 h => ?_) (fun c8 h => ?_)
      ·refine aD (aB (tm (.bp o q 0) (to (bK (aI rfl) rfl) ?_)));refine tfl 0 rfl rfl vU rfl aS (to (sar rfl rfl rfl) (to (bK (aI rfl) rfl) ?_));refine to (sf rfl vU) (to (sst 0 rfl rfl sizeOf3 [.j c.Field.Places, .j c.Field.Wilds, .j c.Field.Guards, .j c.Field.Close, .j c.Field.Freeze, .lit (.map (some g)), .lit u, .k c.frozen, .lit s, .lit t, .j c.more, .j (Z51 c)]) (aC ?_));refine jP mix 15 [0, 3, 4] (fun V => [(45, .i (Z51 c))]) (fun V => [.box o q [.j c.Field.Places, .j c.Field.Wilds, .j c.Field.Guards, .j c.Field.Close, .j c.Field.Freeze, .lit (.map (some g)), .lit u, .k c.frozen, .lit s, .lit t, .j c.more, .j (Z51 c)], .map g (c.players.map fun p : Int × aA => (VI p.1, (fun v : aA => AV.agg (aE v)) p.2)) y j, .arr u 3 1 (Z17 c), .arr s 3 1 (Z14 c), .arr t 3 1 (Z18 c), .box b1 0 (aK e), .box (X2 7).b 0 (Z13 e c)]) ?_ ?_
       ·refine ⟨0, fun V => [(37, 0, .bp b1 0 2), (38, 1, .i e.Kind), (39, 2, .b (Z76 e)), (40, 3, .bp b1 0 4), (41, 4, .i e.Rank), (42, 5, .bp o q 0), (43, 6, .bp o q 0), (44, 7, .bp o q 11), (45, 8, .i (Z51 c)), (46, 9, .bp (X2 7).b 0 0), (47, 11, .bp (X2 7).b 0 1), (48, 13, .bp (X2 7).b 0 2)], fun V => [([], .box o q [.j c.Field.Places, .j c.Field.Wilds, .j c.Field.Guards, .j c.Field.Close, .j c.Field.Freeze, .lit (.map (some g)), .lit u, .k c.frozen, .lit s, .lit t, .j c.more, .j (Z51 c)]), ([], .map g (c.players.map fun p : Int × aA => (VI p.1, (fun v : aA => AV.agg (aE v)) p.2)) y j), ([], .arr u 3 1 (Z17 c)), ([], .arr s 3 1 (Z14 c)), ([], .arr t 3 1 (Z18 c)), ([], .box b1 0 (aK e)), ([(14, .box (X2 7).b 0 (Z13 e c)), (12, .box (X2 7).b 0 (Z23 e c)), (10, .box (X2 7).b 0 (Z25 e c))], .box (X2 7).b 0 (Z63 e c))], ?_, ?_⟩
        · exact xok [(0, 1315), (1, 1315), (2, 1315), (0, 15), (4, 15), (0, 0), (6, 0), (7, 0), (8, 0), (0, 111315), (10, 1315), (11, 1315), (31112, 15), (1113, 15), (5111314, 0)] ⟨fun _ _ w _ k => xp w (yf k rfl yT),
 fun _ _ w _ k => xp w (yl k 5 rfl (og k rfl rfl) rfl aS),
 fun _ _ w _ k => xp w (ycm k rfl rfl rfl),
 fun _ _ w _ k => xp w (yf k rfl oA),
 fun _ _ w _ k => xp w (yl k 5 rfl (og k rfl rfl) rfl aS),
 fun _ _ w _ k => xp w (ym k (.bp o q 0)),
 fun _ _ w _ k => xp w (bK (aI rfl) (aT k rfl)),
 fun _ _ w _ k => xp w (yf k rfl vU),
 fun _ _ w _ k => xp w (yl k 0 rfl (og k rfl rfl) rfl aS),
 fun _ _ w _ k => xp w (yf k rfl yW),
 fun _ _ _ _ k => xs 6 k rfl rfl (mE (i := 6) (aT k rfl) (og k rfl rfl) rfl rfl rfl sizeOf4 rfl (aI rfl) (Nat.le_of_ble_eq_true rfl) (ds' := (Z25 e c)) rfl),
 fun _ _ w _ k => xp w (yf k rfl yX),
 fun _ _ _ _ k => xs 6 k rfl rfl (mE (i := 6) (aT k rfl) (og k rfl rfl) (aT k rfl) rfl rfl sizeOf4 rfl (aI rfl) (Nat.le_of_ble_eq_true rfl) (ds' := (Z23 e c)) rfl),
 fun _ _ w _ k => xp w (yf k rfl vV),
 fun _ _ _ _ k => xs 6 k rfl rfl (mE (i := 6) (aT k rfl) (og k rfl rfl) (aT k rfl) rfl rfl sizeOf3 rfl (aI rfl) (Nat.le_of_ble_eq_true rfl) (ds' := (Z13 e c)) rfl), trivial⟩
        · exact fun V => bP (aL rfl (aP ⟨rfl, rfl, rfl, trivial⟩))
       ·intro V;refine to (sf rfl aBw) (to (sst 6 rfl rfl sizeOf3 (aE (Z7 e c))) ?_);refine cM ?_;refine cG mix 7 [] [(134, .d (Z19 g)), (136, .i e.Player), (137, .agg (aE (Z7 e c)))] ?_ ?_
        ·refine ⟨[(131, 0, .bp o q 0), (132, 1, .bp o q 0), (133, 2, .bp o q 5), (134, 3, .d (Z19 g)), (135, 4, .bp b1 0 3), (136, 5, .i e.Player), (137, 6, .agg (aE (Z7 e c)))], ?_, ?_⟩
         · exact dk [0, 1, 2, 3, 0, 5, 0] ⟨go (zm (.bp o q 0)),
 go fun S hS => bK (aI rfl) (aT hS rfl),
 go (zf rfl fC),
 go (zl 0 rfl rfl rfl jA),
 go (zf rfl fB),
 go (zl 5 rfl rfl rfl aS),
 go (zla 6 (aE (Z7 e c)) rfl rfl mS), trivial⟩
         · exact bP (aL rfl (aL rfl (aL rfl (aP trivial))))
        ·refine to (gE (av := (fun v : aA => AV.agg (aE v))) (l := c.players) (v := (Z7 e c)) (a := e.Player) (m := 1) kL underlying67 rfl rfl rfl rfl (eE (kv := VI) e.Player) rfl rfl) ?_;refine aC ?_;obtain rfl := sIn h;exact ⟨_, (Z36 o q c g u s t e y j), [.box b1 0 (aK e), .box (X2 7).b 0 (aE (Z7 e c))], _, .none, .refl _, .same _, (Z27 e c y j), (Z26 e c j), u, s, t, rfl, rfl⟩
      ·refine cK ?_;refine cG mix 7 [] [(134, .d (Z19 g)), (136, .i e.Player), (137, .agg (Z63 e c))] ?_ ?_
       ·refine ⟨[(131, 0, .bp o q 0), (132, 1, .bp o q 0), (133, 2, .bp o q 5), (134, 3, .d (Z19 g)), (135, 4, .bp b1 0 3), (136, 5, .i e.Player), (137, 6, .agg (Z63 e c))], ?_, ?_⟩
        · exact dk [0, 1, 2, 3, 0, 5, 0] ⟨go (zm (.bp o q 0)),
 go fun S hS => bK (aI rfl) (aT hS rfl),
 go (zf rfl fC),
 go (zl 0 rfl rfl rfl jA),
 go (zf rfl fB),
 go (zl 5 rfl rfl rfl aS),
 go (zla 6 (Z63 e c) rfl rfl mS), trivial⟩
        · exact bP (aL rfl (aL rfl (aL rfl (aP trivial))))
       ·refine to (gE (av := (fun v : aA => AV.agg (aE v))) (l := c.players) (v := aH e.Player Z2 c.players) (a := e.Player) (m := 1) kL underlying67 rfl rfl rfl rfl (eE (kv := VI) e.Player) rfl rfl) ?_;refine aC ?_;obtain rfl := sIn h;exact ⟨_, (Z5 o q c g u s t e y j), [.box b1 0 (aK e), .box (X2 7).b 0 (Z63 e c)], _, .none, .refl _, .same _, (Z27 e c y j), (Z26 e c j), u, s, t, rfl, rfl⟩
   ·refine aD (aB (to (scm rfl rfl rfl) (ta (Z72 e) (aC ?_))));refine tih h (fun d0 h => ?_) (fun d0 h => ?_)
    ·refine aD ?_;obtain ⟨e6, W, h⟩ := bns h;obtain ⟨e7, P, h⟩ := bns h;obtain ⟨d1, M, h⟩ := bns h;refine cG mix 31 [0, 3, 4] [(82, .b d1)] ?_ ?_
     ·refine bch W (fun I W => ?_) (fun I W => ?_)
      ·obtain rfl := sIn W;refine bch P (fun F P => ?_) (fun F P => ?_)
       ·obtain rfl := sIn P;refine bch M (fun B M => ?_) (fun B M => ?_)
        ·obtain rfl := sIn M;refine ⟨[(52, 0, .bp b1 0 1), (53, 1, .i e.Hour), (54, 2, .bp o q 0), (55, 3, .bp o q 0), (56, 4, .bp o q 0), (57, 5, .bp o q 4), (58, 6, .i c.Field.Freeze), (59, 7, .b (Z15 e c)), (60, 8, .b (Z15 e c)), (61, 9, .bp (X2 7).b 0 6), (62, 10, .b (Z32 e c)), (63, 11, .b (!(Z32 e c))), (64, 12, .b (!(Z32 e c))), (65, 13, .b (!(Z32 e c))), (66, 14, .bp (X2 7).b 0 4), (67, 15, .b (Z52 e c)), (68, 16, .b (!(Z52 e c))), (69, 17, .b (!(Z52 e c))), (70, 18, .b (!(Z52 e c))), (71, 19, .bp o q 0), (72, 20, .bp o q 0), (73, 21, .bp o q 6), (74, 22, .d (.lit u)), (75, 23, .i (c.wilds.length : Int)), (76, 24, .bp o q 0), (77, 25, .bp o q 0), (78, 26, .bp o q 0), (79, 27, .bp o q 1), (80, 28, .i c.Field.Wilds), (81, 29, .b (Z37 c)), (82, 30, .b (Z37 c))], ?_, ?_⟩
         · exact dk [0, 1, 0, 3, 4, 5, 6, 207, 8, 9, 910, 911, 912, 13, 14, 1415, 1416, 1417, 18, 19, 1920, 1921, 1922, 1923, 19, 1925, 1926, 1927, 1928, 192429, 1930] ⟨go (zf rfl gV),
 go (zl 5 rfl rfl rfl aS),
 go (zm (.bp o q 0)),
 go fun S hS => bK (aI rfl) (aT hS rfl),
 go (zf rfl kC),
 go (zf rfl lI),
 go (zl 0 rfl rfl rfl aS),
 go (zcm rfl rfl rfl),
 go (zm (.b (Z15 e c))),
 gt I (zf rfl kR),
 gt I (zl 6 rfl rfl rfl fI),
 gt I (zn rfl),
 go (zpt (Z67 e c) I),
 go (zm (Z67 e c)),
 gt F (zf rfl rF),
 gt F (zl 6 rfl rfl rfl fI),
 gt F (zn rfl),
 go (zpt (.b (!(Z52 e c))) F),
 go (zm (.b (!(Z52 e c)))),
 gt B (zm (.bp o q 0)),
 gt B fun S hS => bK (aI rfl) (aT hS rfl),
 gt B (zf rfl lJ),
 gt B (zl 0 rfl rfl rfl dA),
 gt B fun S hS => fJ (m := 2) (aI rfl) (aT hS rfl) rfl bZ.of,
 gt B (zm (.bp o q 0)),
 gt B fun S hS => bK (aI rfl) (aT hS rfl),
 gt B (zf rfl kC),
 gt B (zf rfl aBu),
 gt B (zl 0 rfl rfl rfl aS),
 gt B (zcm rfl rfl rfl),
 go (zpt (.b (Z37 c)) B), trivial⟩
         · exact bP (aL rfl (aP ⟨rfl, rfl, rfl, trivial⟩))
        ·obtain rfl := sIn M;refine ⟨[(52, 0, .bp b1 0 1), (53, 1, .i e.Hour), (54, 2, .bp o q 0), (55, 3, .bp o q 0), (56, 4, .bp o q 0), (57, 5, .bp o q 4), (58, 6, .i c.Field.Freeze), (59, 7, .b (Z15 e c)), (60, 8, .b (Z15 e c)), (61, 9, .bp (X2 7).b 0 6), (62, 10, .b (Z32 e c)), (63, 11, .b (!(Z32 e c))), (64, 12, .b (!(Z32 e c))), (65, 13, .b (!(Z32 e c))), (66, 14, .bp (X2 7).b 0 4), (67, 15, .b (Z52 e c)), (68, 16, .b (!(Z52 e c))), (69, 17, .b (!(Z52 e c))), (70, 18, .b (!(Z52 e c))), (71, 19, .tup []), (72, 20, .tup []), (73, 21, .tup []), (74, 22, .tup []), (75, 23, .tup []), (76, 24, .tup []), (77, 25, .tup []), (78, 26, .tup []), (79, 27, .tup []), (80, 28, .tup []), (81, 29, .tup []), (82, 30, .b false)], ?_, ?_⟩
         · exact dk [0, 1, 0, 3, 4, 5, 6, 207, 8, 9, 910, 911, 912, 13, 14, 1415, 1416, 1417, 18, 19, 1920, 1921, 1922, 1923, 19, 1925, 1926, 1927, 1928, 192429, 1930] ⟨go (zf rfl gV),
 go (zl 5 rfl rfl rfl aS),
 go (zm (.bp o q 0)),
 go fun S hS => bK (aI rfl) (aT hS rfl),
 go (zf rfl kC),
 go (zf rfl lI),
 go (zl 0 rfl rfl rfl aS),
 go (zcm rfl rfl rfl),
 go (zm (.b (Z15 e c))),
 gt I (zf rfl kR),
 gt I (zl 6 rfl rfl rfl fI),
 gt I (zn rfl),
 go (zpt (Z67 e c) I),
 go (zm (Z67 e c)),
 gt F (zf rfl rF),
 gt F (zl 6 rfl rfl rfl fI),
 gt F (zn rfl),
 go (zpt (.b (!(Z52 e c))) F),
 go (zm (.b (!(Z52 e c)))),
 gp B,
 gp B,
 gp B,
 gp B,
 gp B,
 gp B,
 gp B,
 gp B,
 gp B,
 gp B,
 gp B,
 go (zpf Z12 B), trivial⟩
         · exact bP (aL rfl (aP ⟨rfl, rfl, rfl, trivial⟩))
       ·obtain rfl := sIn P;have B : false = false := rfl;have M := nQ B M;obtain rfl := sIn M;refine ⟨[(52, 0, .bp b1 0 1), (53, 1, .i e.Hour), (54, 2, .bp o q 0), (55, 3, .bp o q 0), (56, 4, .bp o q 0), (57, 5, .bp o q 4), (58, 6, .i c.Field.Freeze), (59, 7, .b (Z15 e c)), (60, 8, .b (Z15 e c)), (61, 9, .bp (X2 7).b 0 6), (62, 10, .b (Z32 e c)), (63, 11, .b (!(Z32 e c))), (64, 12, .b (!(Z32 e c))), (65, 13, .b (!(Z32 e c))), (66, 14, .tup []), (67, 15, .tup []), (68, 16, .tup []), (69, 17, .b false), (70, 18, .b (false)), (71, 19, .tup []), (72, 20, .tup []), (73, 21, .tup []), (74, 22, .tup []), (75, 23, .tup []), (76, 24, .tup []), (77, 25, .tup []), (78, 26, .tup []), (79, 27, .tup []), (80, 28, .tup []), (81, 29, .tup []), (82, 30, .b false)], ?_, ?_⟩
        · exact dk [0, 1, 0, 3, 4, 5, 6, 207, 8, 9, 910, 911, 912, 13, 14, 1415, 1416, 1417, 18, 19, 1920, 1921, 1922, 1923, 19, 1925, 1926, 1927, 1928, 192429, 1930] ⟨go (zf rfl gV),
 go (zl 5 rfl rfl rfl aS),
 go (zm (.bp o q 0)),
 go fun S hS => bK (aI rfl) (aT hS rfl),
 go (zf rfl kC),
 go (zf rfl lI),
 go (zl 0 rfl rfl rfl aS),
 go (zcm rfl rfl rfl),
 go (zm (.b (Z15 e c))),
 gt I (zf rfl kR),
 gt I (zl 6 rfl rfl rfl fI),
 gt I (zn rfl),
 go (zpt (Z67 e c) I),
 go (zm (Z67 e c)),
 gp F,
 gp F,
 gp F,
 go (zpf Z12 F),
 go (zm Z66),
 gp B,
 gp B,
 gp B,
 gp B,
 gp B,
 gp B,
 gp B,
 gp B,
 gp B,
 gp B,
 gp B,
 go (zpf Z12 B), trivial⟩
        · exact bP (aL rfl (aP ⟨rfl, rfl, rfl, trivial⟩))
      ·obtain rfl := sIn W;have F : false = false := rfl;have P := nQ F P;obtain rfl := sIn P;have B : false = false := rfl;have M := nQ B M;obtain rfl := sIn M;refine ⟨[(52, 0, .bp b1 0 1), (53, 1, .i e.Hour), (54, 2, .bp o q 0), (55, 3, .bp o q 0), (56, 4, .bp o q 0), (57, 5, .bp o q 4), (58, 6, .i c.Field.Freeze), (59, 7, .b (Z15 e c)), (60, 8, .b (Z15 e c)), (61, 9, .tup []), (62, 10, .tup []), (63, 11, .tup []), (64, 12, .b false), (65, 13, .b (false)), (66, 14, .tup []), (67, 15, .tup []), (68, 16, .tup []), (69, 17, .b false), (70, 18, .b (false)), (71, 19, .tup []), (72, 20, .tup []), (73, 21, .tup []), (74, 22, .tup []), (75, 23, .tup []), (76, 24, .tup []), (77, 25, .tup []), (78, 26, .tup []), (79, 27, .tup []), (80, 28, .tup []), (81, 29, .tup []), (82, 30, .b false)], ?_, ?_⟩
       · exact dk [0, 1, 0, 3, 4, 5, 6, 207, 8, 9, 910, 911, 912, 13, 14, 1415, 1416, 1417, 18, 19, 1920, 1921, 1922, 1923, 19, 1925, 1926, 1927, 1928, 192429, 1930] ⟨go (zf rfl gV),
 go (zl 5 rfl rfl rfl aS),
 go (zm (.bp o q 0)),
 go fun S hS => bK (aI rfl) (aT hS rfl),
 go (zf rfl kC),
 go (zf rfl lI),
 go (zl 0 rfl rfl rfl aS),
 go (zcm rfl rfl rfl),
 go (zm (.b (Z15 e c))),
 gp I,
 gp I,
 gp I,
 go (zpf Z12 I),
 go (zm Z66),
 gp F,
 gp F,
 gp F,
 go (zpf Z12 F),
 go (zm Z66),
 gp B,
 gp B,
 gp B,
 gp B,
 gp B,
 gp B,
 gp B,
 gp B,
 gp B,
 gp B,
 gp B,
 go (zpf Z12 B), trivial⟩
       · exact bP (aL rfl (aP ⟨rfl, rfl, rfl, trivial⟩))
     ·refine aC ?_;refine tih h (fun d2 h => ?_) (fun d2 h => ?_)
      ·refine aD (aB (to (sf rfl kR) (to (sst 6 rfl rfl sizeOf4 (Z56 e c)) (to (sf rfl aFx) (to (sst 6 rfl rfl sizeOf4 (aE (Z6 e c))) (aC ?_))))));obtain ⟨a2, d3, h⟩ := bns h;refine jP mix 9 [0, 3, 4] (fun K => [(85, .bp o q 0), (93, .d (.lit (K 8).v))]) (fun K => [.box o q [.j c.Field.Places, .j c.Field.Wilds, .j c.Field.Guards, .j c.Field.Close, .j c.Field.Freeze, .lit (.map (some g)), .lit u, .k c.frozen, .lit s, .lit t, .j c.more, .j c.entered], .map g (c.players.map fun p : Int × aA => (VI p.1, (fun v : aA => AV.agg (aE v)) p.2)) y j, .arr (K 8).v 3 1 (a2.map aJ), .arr s 3 1 (Z14 c), .arr t 3 1 (Z18 c), .box b1 0 (aK e), .box (X2 7).b 0 (aE (Z6 e c))]) ?_ ?_
       ·refine ⟨0, fun K => [(85, 0, .bp o q 0), (86, 1, .bp o q 0), (87, 2, .bp o q 0), (88, 3, .bp o q 6), (89, 4, .d (.lit u)), (90, 5, .bp b1 0 3), (91, 6, .i e.Player), (92, 7, .d (.sl 1 (([e.Player]).map aJ))), (93, 8, .d (.lit (K 8).v))], fun K => [([], .box o q [.j c.Field.Places, .j c.Field.Wilds, .j c.Field.Guards, .j c.Field.Close, .j c.Field.Freeze, .lit (.map (some g)), .lit u, .k c.frozen, .lit s, .lit t, .j c.more, .j c.entered]), ([], .map g (c.players.map fun p : Int × aA => (VI p.1, (fun v : aA => AV.agg (aE v)) p.2)) y j), ([(8, .arr (K 8).v 3 1 (a2.map aJ))], .arr u 3 1 (Z17 c)), ([], .arr s 3 1 (Z14 c)), ([], .arr t 3 1 (Z18 c)), ([], .box b1 0 (aK e)), ([], .box (X2 7).b 0 (aE (Z6 e c)))], ?_, ?_⟩
        · exact xok [(0, 0), (0, 9), (2, 9), (3, 9), (4, 9), (0, 9), (6, 9), (7, 9), (508, 0)] ⟨fun _ _ w _ k => xp w (ym k (.bp o q 0)),
 fun _ _ w _ k => xp w (ym k (.bp o q 0)),
 fun _ _ w _ k => xp w (bK (aI rfl) (aT k rfl)),
 fun _ _ w _ k => xp w (yf k rfl lJ),
 fun _ _ w _ k => xp w (yl k 0 rfl (og k rfl rfl) rfl dA),
 fun _ _ w _ k => xp w (yf k rfl fB),
 fun _ _ w _ k => xp w (yl k 5 rfl (og k rfl rfl) rfl aS),
 fun _ _ w _ k => xp w (gK (aI rfl) bZ rfl (pa2 (aT k rfl) pan) (rows := ([e.Player]).map aJ) rfl (bD (f := aJ) fun _ => rfl) rfl (by decide)),
 fun K S hw hi hS => qV (X := K) (p := 2) (v := fun x => .d (.lit x.v)) (mo := fun x => .arr x.v 3 1 (a2.map aJ)) hS hi rfl rfl (fun _ => rfl) hw (fun _ => rfl) (fun _ => rfl) (fun _ => rfl) (fun _ => ⟨rfl, rfl, .inr rfl, ⟨rfl, rfl, .inr rfl, ⟨rfl, rfl, .inr rfl, ⟨rfl, rfl, .inr rfl, ⟨rfl, rfl, .inr rfl, ⟨rfl, rfl, .inr rfl, ⟨rfl, rfl, .inr rfl, ⟨rfl, rfl, .inr rfl, ⟨rfl, rfl, .inl rfl, trivial⟩⟩⟩⟩⟩⟩⟩⟩⟩) (fun _ => ⟨trivial, rfl, ⟨trivial, rfl, ⟨⟨rfl, .inl rfl, trivial⟩, rfl, ⟨trivial, rfl, ⟨trivial, rfl, ⟨trivial, rfl, ⟨trivial, rfl, trivial⟩⟩⟩⟩⟩⟩⟩) (lQ (jC (i := 2) (aI rfl) bZ (aT hS rfl) (og hS rfl rfl) (aT hS rfl) (fun _ => rfl) d3 rfl) (by rintro _ ⟨w, rfl⟩; exact ⟨⟨0, w⟩, Ent.refl _⟩)), trivial⟩
        · exact fun K => bP (aL rfl (aL rfl (aP ⟨rfl, rfl, rfl, trivial⟩)))
       ·intro K;refine to (bK (aI rfl) rfl) ?_;refine to (sf rfl lJ) (to (sst 0 rfl rfl sizeOf28 [.j c.Field.Places, .j c.Field.Wilds, .j c.Field.Guards, .j c.Field.Close, .j c.Field.Freeze, .lit (.map (some g)), .lit (K 8).v, .k c.frozen, .lit s, .lit t, .j c.more, .j c.entered]) ?_);refine cM ?_;refine cG mix 7 [] [(134, .d (Z19 g)), (136, .i e.Player), (137, .agg (aE (Z6 e c)))] ?_ ?_
        ·refine ⟨[(131, 0, .bp o q 0), (132, 1, .bp o q 0), (133, 2, .bp o q 5), (134, 3, .d (Z19 g)), (135, 4, .bp b1 0 3), (136, 5, .i e.Player), (137, 6, .agg (aE (Z6 e c)))], ?_, ?_⟩
         · exact dk [0, 1, 2, 3, 0, 5, 0] ⟨go (zm (.bp o q 0)),
 go fun S hS => bK (aI rfl) (aT hS rfl),
 go (zf rfl fC),
 go (zl 0 rfl rfl rfl jA),
 go (zf rfl fB),
 go (zl 5 rfl rfl rfl aS),
 go (zla 6 (aE (Z6 e c)) rfl rfl mS), trivial⟩
         · exact bP (aL rfl (aL rfl (aL rfl (aP trivial))))
        ·refine to (gE (av := (fun v : aA => AV.agg (aE v))) (l := c.players) (v := (Z6 e c)) (a := e.Player) (m := 1) kL underlying67 rfl rfl rfl rfl (eE (kv := VI) e.Player) rfl rfl) ?_;refine aC ?_;obtain rfl := sIn h;exact ⟨_, [.box o q [.j c.Field.Places, .j c.Field.Wilds, .j c.Field.Guards, .j c.Field.Close, .j c.Field.Freeze, .lit (.map (some g)), .lit (K 8).v, .k c.frozen, .lit s, .lit t, .j c.more, .j c.entered], .map g ((dS e.Player (Z6 e c) c.players).map fun p : Int × aA => (VI p.1, (fun v : aA => AV.agg (aE v)) p.2)) (Z27 e c y j) (Z26 e c j), .arr (K 8).v 3 1 (a2.map aJ), .arr s 3 1 (Z14 c), .arr t 3 1 (Z18 c)], [.box b1 0 (aK e), .box (X2 7).b 0 (aE (Z6 e c))], _, .none, .refl _, .same _, (Z27 e c y j), (Z26 e c j), (K 8).v, s, t, rfl, rfl⟩
      ·refine cK ?_;refine cG mix 7 [] [(134, .d (Z19 g)), (136, .i e.Player), (137, .agg (Z63 e c))] ?_ ?_
       ·refine ⟨[(131, 0, .bp o q 0), (132, 1, .bp o q 0), (133, 2, .bp o q 5), (134, 3, .d (Z19 g)), (135, 4, .bp b1 0 3), (136, 5, .i e.Player), (137, 6, .agg (Z63 e c))], ?_, ?_⟩
        · exact dk [0, 1, 2, 3, 0, 5, 0] ⟨go (zm (.bp o q 0)),
 go fun S hS => bK (aI rfl) (aT hS rfl),
 go (zf rfl fC),
 go (zl 0 rfl rfl rfl jA),
 go (zf rfl fB),
 go (zl 5 rfl rfl rfl aS),
 go (zla 6 (Z63 e c) rfl rfl mS), trivial⟩
        · exact bP (aL rfl (aL rfl (aL rfl (aP trivial))))
       ·refine to (gE (av := (fun v : aA => AV.agg (aE v))) (l := c.players) (v := aH e.Player Z2 c.players) (a := e.Player) (m := 1) kL underlying67 rfl rfl rfl rfl (eE (kv := VI) e.Player) rfl rfl) ?_;refine aC ?_;obtain rfl := sIn h;exact ⟨_, (Z5 o q c g u s t e y j), [.box b1 0 (aK e), .box (X2 7).b 0 (Z63 e c)], _, .none, .refl _, .same _, (Z27 e c y j), (Z26 e c j), u, s, t, rfl, rfl⟩
    ·refine aD (aB (to (scm rfl rfl rfl) (ta (Z73 e) (aC ?_))));refine tih h (fun d4 h => ?_) (fun d4 h => ?_)
     ·refine aD (aD ?_);obtain ⟨d5, Y, h⟩ := bns h;refine cG mix 12 [0, 3, 4] [(109, .b d5)] ?_ ?_
      ·refine bch Y (fun G Y => ?_) (fun G Y => ?_)
       ·obtain rfl := sIn Y;refine ⟨[(98, 0, .bp (X2 7).b 0 6), (99, 1, .b (Z32 e c)), (100, 2, .b (Z32 e c)), (101, 3, .bp b1 0 1), (102, 4, .i e.Hour), (103, 5, .bp o q 0), (104, 6, .bp o q 0), (105, 7, .bp o q 0), (106, 8, .bp o q 4), (107, 9, .i c.Field.Freeze), (108, 10, .b (Z55 c e)), (109, 11, .b (Z55 c e))], ?_, ?_⟩
        · exact dk [0, 1, 2, 3, 304, 3, 306, 307, 308, 309, 30510, 311] ⟨go (zf rfl kR),
 go (zl 6 rfl rfl rfl fI),
 go (zm (.b (Z32 e c))),
 gt G (zf rfl gV),
 gt G (zl 5 rfl rfl rfl aS),
 gt G (zm (.bp o q 0)),
 gt G fun S hS => bK (aI rfl) (aT hS rfl),
 gt G (zf rfl kC),
 gt G (zf rfl lI),
 gt G (zl 0 rfl rfl rfl aS),
 gt G (zcm rfl rfl rfl),
 go (zpt (.b (Z55 c e)) G), trivial⟩
        · exact bP (aL rfl (aP ⟨rfl, rfl, rfl, trivial⟩))
       ·obtain rfl := sIn Y;refine ⟨[(98, 0, .bp (X2 7).b 0 6), (99, 1, .b (Z32 e c)), (100, 2, .b (Z32 e c)), (101, 3, .tup []), (102, 4, .tup []), (103, 5, .tup []), (104, 6, .tup []), (105, 7, .tup []), (106, 8, .tup []), (107, 9, .tup []), (108, 10, .tup []), (109, 11, .b false)], ?_, ?_⟩
        · exact dk [0, 1, 2, 3, 304, 3, 306, 307, 308, 309, 30510, 311] ⟨go (zf rfl kR),
 go (zl 6 rfl rfl rfl fI),
 go (zm (.b (Z32 e c))),
 gp G,
 gp G,
 gp G,
 gp G,
 gp G,
 gp G,
 gp G,
 gp G,
 go (zpf Z12 G), trivial⟩
        · exact bP (aL rfl (aP ⟨rfl, rfl, rfl, trivial⟩))
      ·refine aC ?_;refine tih h (fun d6 h => ?_) (fun d6 h => ?_)
       ·refine aB (tm (.bp o q 0) (to (bK (aI rfl) rfl) ?_));refine tfl 0 rfl rfl yV rfl aS (to (sar rfl rfl rfl) (to (bK (aI rfl) rfl) ?_));refine to (sf rfl yV) (to (sst 0 rfl rfl sizeOf3 [.j c.Field.Places, .j c.Field.Wilds, .j c.Field.Guards, .j c.Field.Close, .j c.Field.Freeze, .lit (.map (some g)), .lit u, .k c.frozen, .lit s, .lit t, .j (Z64 c), .j c.entered]) (aC (aD (aB (to (sf rfl rF) (to (sst 6 rfl rfl sizeOf4 (Z24 e c)) (to (sf rfl kR) (to (sst 6 rfl rfl sizeOf4 (Z71 e c)) (aC (aB (tm (.bp o q 0) (tm (.bp o q 0) (to (bK (aI rfl) rfl) ?_)))))))))))));refine tfl 0 rfl rfl lJ rfl dA (to (qR (aI rfl) rfl rfl) ?_);refine dR (aR [0, 1, 2, 3, 4, 6, 5] rfl rfl (le_refl _)) ?_;apply wI [.box o q [.j c.Field.Places, .j c.Field.Wilds, .j c.Field.Guards, .j c.Field.Close, .j c.Field.Freeze, .lit (.map (some g)), .lit u, .k c.frozen, .lit s, .lit t, .j (Z64 c), .j c.entered], .map g (c.players.map fun p : Int × aA => (VI p.1, (fun v : aA => AV.agg (aE v)) p.2)) y j, .arr u 3 1 (Z17 c), .arr s 3 1 (Z14 c), .arr t 3 1 (Z18 c), .box (X2 7).b 0 (Z71 e c)] [.box b1 0 (aK e)] rfl;exact dK (k := 124) (v := .fn 96 (Z21 e)) (sE (.cons (eM 0 rfl rfl (dvc (.same _) (dvc (.same _) (dvc (.same _) (dvc (.same _) (dvc (.same _) dvn)))))) .nil)) (dK (k := 3) (v := .cp [.j e.Id, .j e.Hour, .j e.Kind, .j e.Player, .j e.Rank]) (eM 0 rfl rfl (dvc (.same _) (dvc (.same _) (dvc (.same _) (dvc (.same _) (dvc (.same _) dvn)))))) (lU _ _));obtain ⟨d7, d8, h⟩ := bns h;refine dR (aR [2, 0, 1, 3, 4, 5] rfl rfl (le_refl _)) ?_;refine bA rfl (cU (passed := [.arr u 3 1 (Z17 c)]) (aI rfl) rfl (.func _ _ call47) rfl rfl (gW c.wilds (fun d9 => fV d9 e) 96 (Z21 e) call96 (fun _ _ h => pG _ _ h) d8)) ?_;rintro _ ⟨_, _, ⟨a3, rfl, rfl⟩, rfl⟩;refine to (bK (aI rfl) rfl) ?_;refine to (sf rfl lJ) (to (sst 1 rfl rfl sizeOf28 [.j c.Field.Places, .j c.Field.Wilds, .j c.Field.Guards, .j c.Field.Close, .j c.Field.Freeze, .lit (.map (some g)), .lit a3, .k c.frozen, .lit s, .lit t, .j (Z64 c), .j c.entered]) ?_);refine cM ?_;refine cG mix 7 [] [(134, .d (Z19 g)), (136, .i e.Player), (137, .agg (Z71 e c))] ?_ ?_
        ·refine ⟨[(131, 0, .bp o q 0), (132, 1, .bp o q 0), (133, 2, .bp o q 5), (134, 3, .d (Z19 g)), (135, 4, .cp [.j e.Player]), (136, 5, .i e.Player), (137, 6, .agg (Z71 e c))], ?_, ?_⟩
         · exact dk [0, 1, 2, 3, 0, 5, 0] ⟨go (zm (.bp o q 0)),
 go fun S hS => bK (aI rfl) (aT hS rfl),
 go (zf rfl fC),
 go (zl 1 rfl rfl rfl jA),
 go (zfc [.j e.Player] rfl fB),
 go (zlc rfl aS),
 go (zla 5 (Z71 e c) rfl rfl mS), trivial⟩
         · exact bP (aL rfl (aL rfl (aL rfl (aP trivial))))
        ·refine to (gE (av := (fun v : aA => AV.agg (aE v))) (l := c.players) (v := (Z3 e c)) (a := e.Player) (m := 2) kL underlying67 rfl rfl rfl rfl (eE (kv := VI) e.Player) rfl rfl) ?_;refine aC ?_;obtain rfl := sIn h;exact ⟨_, [.box o q [.j c.Field.Places, .j c.Field.Wilds, .j c.Field.Guards, .j c.Field.Close, .j c.Field.Freeze, .lit (.map (some g)), .lit a3, .k c.frozen, .lit s, .lit t, .j (Z64 c), .j c.entered], .map g ((Z79 e c).map fun p : Int × aA => (VI p.1, (fun v : aA => AV.agg (aE v)) p.2)) (Z27 e c y j) (Z26 e c j), .arr a3 3 1 (d7.map aJ), .arr s 3 1 (Z14 c), .arr t 3 1 (Z18 c)], [.box (X2 7).b 0 (Z71 e c)], _, .none, (dQ (i := 1) rfl).trans (.cons _ ((dQ (i := 1) rfl).trans (.cons _ ((dQ (i := 0) rfl).trans (.cons _ ((dQ (i := 0) rfl).trans (.cons _ ((dQ (i := 0) rfl).trans (.cons _ ((dQ (i := 0) rfl).trans (.cons _ (.refl _)))))))))))), .same _, (Z27 e c y j), (Z26 e c j), a3, s, t, rfl, rfl⟩
       ·refine aV (aD (aB (to (sf rfl rF) (to (sst 6 rfl rfl sizeOf4 (Z24 e c)) (to (sf rfl kR) (to (sst 6 rfl rfl sizeOf4 (Z71 e c)) (aC (aB (tm (.bp o q 0) (tm (.bp o q 0) (to (bK (aI rfl) rfl) ?_)))))))))));refine tfl 0 rfl rfl lJ rfl dA (to (qR (aI rfl) rfl rfl) ?_);refine dR (aR [0, 1, 2, 3, 4, 6, 5] rfl rfl (le_refl _)) ?_;apply wI [.box o q [.j c.Field.Places, .j c.Field.Wilds, .j c.Field.Guards, .j c.Field.Close, .j c.Field.Freeze, .lit (.map (some g)), .lit u, .k c.frozen, .lit s, .lit t, .j c.more, .j c.entered], .map g (c.players.map fun p : Int × aA => (VI p.1, (fun v : aA => AV.agg (aE v)) p.2)) y j, .arr u 3 1 (Z17 c), .arr s 3 1 (Z14 c), .arr t 3 1 (Z18 c), .box (X2 7).b 0 (Z71 e c)] [.box b1 0 (aK e)] rfl;exact dK (k := 124) (v := .fn 96 (Z21 e)) (sE (.cons (eM 0 rfl rfl (dvc (.same _) (dvc (.same _) (dvc (.same _) (dvc (.same _) (dvc (.same _) dvn)))))) .nil)) (dK (k := 3) (v := .cp [.j e.Id, .j e.Hour, .j e.Kind, .j e.Player, .j e.Rank]) (eM 0 rfl rfl (dvc (.same _) (dvc (.same _) (dvc (.same _) (dvc (.same _) (dvc (.same _) dvn)))))) (lU _ _));obtain ⟨e0, e1, h⟩ := bns h;refine dR (aR [2, 0, 1, 3, 4, 5] rfl rfl (le_refl _)) ?_;refine bA rfl (cU (passed := [.arr u 3 1 (Z17 c)]) (aI rfl) rfl (.func _ _ call47) rfl rfl (gW c.wilds (fun e2 => fV e2 e) 96 (Z21 e) call96 (fun _ _ h => pG _ _ h) e1)) ?_;rintro _ ⟨_, _, ⟨a4, rfl, rfl⟩, rfl⟩;refine to (bK (aI rfl) rfl) ?_;refine to (sf rfl lJ) (to (sst 1 rfl rfl sizeOf28 [.j c.Field.Places, .j c.Field.Wilds, .j c.Field.Guards, .j c.Field.Close, .j c.Field.Freeze, .lit (.map (some g)), .lit a4, .k c.frozen, .lit s, .lit t, .j c.more, .j c.entered]) ?_);refine cM ?_;refine cG mix 7 [] [(134, .d (Z19 g)), (136, .i e.Player), (137, .agg (Z71 e c))] ?_ ?_
        ·refine ⟨[(131, 0, .bp o q 0), (132, 1, .bp o q 0), (133, 2, .bp o q 5), (134, 3, .d (Z19 g)), (135, 4, .cp [.j e.Player]), (136, 5, .i e.Player), (137, 6, .agg (Z71 e c))], ?_, ?_⟩
         · exact dk [0, 1, 2, 3, 0, 5, 0] ⟨go (zm (.bp o q 0)),
 go fun S hS => bK (aI rfl) (aT hS rfl),
 go (zf rfl fC),
 go (zl 1 rfl rfl rfl jA),
 go (zfc [.j e.Player] rfl fB),
 go (zlc rfl aS),
 go (zla 5 (Z71 e c) rfl rfl mS), trivial⟩
         · exact bP (aL rfl (aL rfl (aL rfl (aP trivial))))
        ·refine to (gE (av := (fun v : aA => AV.agg (aE v))) (l := c.players) (v := (Z3 e c)) (a := e.Player) (m := 2) kL underlying67 rfl rfl rfl rfl (eE (kv := VI) e.Player) rfl rfl) ?_;refine aC ?_;obtain rfl := sIn h;exact ⟨_, [.box o q [.j c.Field.Places, .j c.Field.Wilds, .j c.Field.Guards, .j c.Field.Close, .j c.Field.Freeze, .lit (.map (some g)), .lit a4, .k c.frozen, .lit s, .lit t, .j c.more, .j c.entered], .map g ((Z79 e c).map fun p : Int × aA => (VI p.1, (fun v : aA => AV.agg (aE v)) p.2)) (Z27 e c y j) (Z26 e c j), .arr a4 3 1 (e0.map aJ), .arr s 3 1 (Z14 c), .arr t 3 1 (Z18 c)], [.box (X2 7).b 0 (Z71 e c)], _, .none, (dQ (i := 1) rfl).trans (.cons _ ((dQ (i := 1) rfl).trans (.cons _ ((dQ (i := 0) rfl).trans (.cons _ ((dQ (i := 0) rfl).trans (.cons _ ((dQ (i := 0) rfl).trans (.cons _ ((dQ (i := 0) rfl).trans (.cons _ (.refl _)))))))))))), .same _, (Z27 e c y j), (Z26 e c j), a4, s, t, rfl, rfl⟩
     ·refine aD (aB (to (scm rfl rfl rfl) (ta (Z74 e) (aC ?_))));refine tih h (fun e3 h => ?_) (fun e3 h => ?_)
      ·refine aB (to (sf rfl vW) (to (sst 6 rfl rfl sizeOf4 (aE (Z8 e c))) ?_));refine cM ?_;refine cG mix 7 [] [(134, .d (Z19 g)), (136, .i e.Player), (137, .agg (aE (Z8 e c)))] ?_ ?_
       ·refine ⟨[(131, 0, .bp o q 0), (132, 1, .bp o q 0), (133, 2, .bp o q 5), (134, 3, .d (Z19 g)), (135, 4, .bp b1 0 3), (136, 5, .i e.Player), (137, 6, .agg (aE (Z8 e c)))], ?_, ?_⟩
        · exact dk [0, 1, 2, 3, 0, 5, 0] ⟨go (zm (.bp o q 0)),
 go fun S hS => bK (aI rfl) (aT hS rfl),
 go (zf rfl fC),
 go (zl 0 rfl rfl rfl jA),
 go (zf rfl fB),
 go (zl 5 rfl rfl rfl aS),
 go (zla 6 (aE (Z8 e c)) rfl rfl mS), trivial⟩
        · exact bP (aL rfl (aL rfl (aL rfl (aP trivial))))
       ·refine to (gE (av := (fun v : aA => AV.agg (aE v))) (l := c.players) (v := (Z8 e c)) (a := e.Player) (m := 1) kL underlying67 rfl rfl rfl rfl (eE (kv := VI) e.Player) rfl rfl) ?_;refine aC ?_;obtain rfl := sIn h;exact ⟨_, (Z42 o q c g u s t e y j), [.box b1 0 (aK e), .box (X2 7).b 0 (aE (Z8 e c))], _, .none, .refl _, .same _, (Z27 e c y j), (Z26 e c j), u, s, t, rfl, rfl⟩
      ·refine cK ?_;refine cG mix 7 [] [(134, .d (Z19 g)), (136, .i e.Player), (137, .agg (Z63 e c))] ?_ ?_
       ·refine ⟨[(131, 0, .bp o q 0), (132, 1, .bp o q 0), (133, 2, .bp o q 5), (134, 3, .d (Z19 g)), (135, 4, .bp b1 0 3), (136, 5, .i e.Player), (137, 6, .agg (Z63 e c))], ?_, ?_⟩
        · exact dk [0, 1, 2, 3, 0, 5, 0] ⟨go (zm (.bp o q 0)),
 go fun S hS => bK (aI rfl) (aT hS rfl),
 go (zf rfl fC),
 go (zl 0 rfl rfl rfl jA),
 go (zf rfl fB),
 go (zl 5 rfl rfl rfl aS),
 go (zla 6 (Z63 e c) rfl rfl mS), trivial⟩
        · exact bP (aL rfl (aL rfl (aL rfl (aP trivial))))
       ·refine to (gE (av := (fun v : aA => AV.agg (aE v))) (l := c.players) (v := aH e.Player Z2 c.players) (a := e.Player) (m := 1) kL underlying67 rfl rfl rfl rfl (eE (kv := VI) e.Player) rfl rfl) ?_;refine aC ?_;obtain rfl := sIn h;exact ⟨_, (Z5 o q c g u s t e y j), [.box b1 0 (aK e), .box (X2 7).b 0 (Z63 e c)], _, .none, .refl _, .same _, (Z27 e c y j), (Z26 e c j), u, s, t, rfl, rfl⟩

theorem vL (d : Int) (a : List (Int × aA)) {r : Bool} {e f g j k l m o q s c : D} (h : gR d a = some r) : Fn Tryz.prog 97 [.i d, .cp [.pt [e, f, g, j, k, .mp true (a.map fun p : Int × aA => (VI p.1, aE p.2)), l, m, o, q, s, c]]] (.b r) := by
 unfold gR at h;refine oT [.tmp 3] func97 results97 ntmps97 ?_;refine aD (aB (ta Z12 (aC (aD (aB (to (xD (.ptc _) (pY (aI rfl) rfl kP)) ?_))))));refine tm (.i d) ?_;obtain ⟨r1, h2, h⟩ := bns h;refine to (scr call50 (uT _ _ h2)) (to (sn rfl) (ta (.b (!r1)) (aC ?_)));obtain rfl := sIn h;exact rt

theorem aEe (a : Int) {r : (List Int)} (h : pZ a = some r) : dB Tryz.prog 75 [.d Z31, .i a] [] (fun r' o' => ∃ (w0 : Value), r' = .d (.lit w0) ∧ o' = [.arr w0 3 1 (r.map aJ)]) := by
 unfold pZ at h;refine iN func75 rfl (rs := [.tmp 4]) results75 ntmps75 (Nat.le_of_ble_eq_true rfl) ?_;refine bL (uR 3 1) ?_;refine aD (aB (to (fP 3 1 (.inl rfl) (aI rfl)) ?_));refine aC (aD (aD (aB (tm (.i a) (to (scm rfl rfl rfl) (aC ?_))))));refine tih h (fun c2 h => ?_) (fun c2 h => ?_)
 ·cases h
 ·refine aV (aD (aD (aB (tm (.i a) (tm (.d Z31) (to (aJv (aI rfl) rfl bZ.of) ?_))))));refine tm (.d Z31) (to (aJx (aI rfl) rfl bZ.of) ?_);refine to (sar rfl rfl rfl) (to (sar rfl rfl rfl) (ta (.i (w64 (a - (w64 (0 - 0))))) (aC (aD (aB (tm (.i (w64 (a - (w64 (0 - 0))))) (to (scm rfl rfl rfl) (aC ?_))))))));refine tih h (fun c3 h => ?_) (fun c3 h => ?_)
  ·refine aB (tm (.d Z31) (tm (.d Z31) (to (aJv (aI rfl) rfl bZ.of) ?_)));obtain ⟨u4, h5, h⟩ := bns h;refine to (sR (m := 0) (q := 0) (v := (.slice none 0 0)) (aI rfl) rfl rfl rfl rfl (aDd h5) bZ.of) ?_;refine tm (.i (w64 (a - (w64 (0 - 0))))) ?_;obtain ⟨u6, h7, h⟩ := bns h;refine bA rfl (aSo (i := 0) (aI rfl) bZ rfl rfl rfl underlying3 (aKr h7).1 (aKr h7).2 (by decide)) ?_;rintro _ ⟨v8, rfl⟩;refine tm (.d Z31) (to (aJx (aI rfl) rfl bZ.of) ?_);obtain ⟨u9, b, h⟩ := bns h;refine to (sR (m := 0) (q := 0) (v := v8) (aI rfl) rfl rfl rfl rfl (aDd b) bZ.of) ?_;refine ta (.d (.lit (gM v8 0))) (aC (aD (aB (tm (.d (.lit (gM v8 0))) (ta (.d (.lit (gM v8 0))) (aC ?_))))));obtain rfl := sIn h;exact cS ⟨rfl, _, [.arr (gM v8 0) 3 1 Z80], Z30, _, .one (.tmp 4 (v := .d (.lit (gM v8 0))) rfl), .refl _, .same _, (gM v8 0), rfl, rfl⟩
  ·refine aV (aD (aB (tm (.d Z31) (ta (.d Z31) (aC ?_)))));obtain rfl := sIn h;exact cS ⟨rfl, _, Z30, Z30, _, .one (.tmp 4 (v := .d Z31) rfl), .refl _, .same _, (.slice none 0 0), rfl, rfl⟩

theorem vI (a : List (List Int)) {r : (List Int)} (h : oI a = some r) : dB Tryz.prog 46 [.d (.sl 1 (a.map rQ))] [] (fun r' o' => ∃ (w0 : Value), r' = .d (.lit w0) ∧ o' = [.arr w0 3 1 (r.map aJ)]) := by
 unfold oI at h;refine iN func46 rfl (rs := [.tmp 2]) results46 ntmps46 (Nat.le_of_ble_eq_true rfl) ?_;refine aD (aB (to (fP 3 1 (.inl rfl) (aI rfl)) ?_));refine aC (aD (aB (ta (.i 0) (aC (aD (aD (aB (tm (.d (.sl 1 (a.map rQ))) (to (sle rfl aBc.of) (tm (.i 0) (aC (bF ?_))))))))))));refine bY (S := Int × Int) [0, 9, 10] (fun s2 => [(3, .i s2.1), (11, .i s2.2)]) (fun s2 => []) (fun k s2 => jE a a (a.length : Int) k s2.1 s2.2) (fun _ => rfl) (0, 0) h (aR [] rfl rfl (aL rfl (aL rfl (aP ⟨rfl, rfl, rfl, trivial⟩)))) ?_;rintro k3 ⟨b, f⟩ h;simp only [jE] at h;refine aD (aB (to (scm rfl rfl rfl) (aC (aD ?_))));refine tih h (fun c4 h => ?_) (fun c4 h => ?_)
 ·refine aV (aD (bF (aD (aB ?_))));obtain ⟨x5, h6, h⟩ := bns h;refine to (six rfl rfl aBc.of (bC rQ h6)) (to (slc rfl dA) (ta (.d (.sl 1 (x5.map aJ))) (aC (aD (aB (tm (.i b) (tm (.d (.sl 1 (x5.map aJ))) (to (sle rfl bZ.of) (to (sar rfl rfl rfl) (ta (.i (w64 (b + (x5.length : Int)))) (aC (aD (aB ?_)))))))))))));refine tm (.i (w64 (b + (x5.length : Int)))) (to (scm rfl rfl rfl) (aC ?_));refine tih h (fun c7 h => ?_) (fun c7 h => ?_)
  ·cases h
  ·refine cK ?_;refine aB (to (sar rfl rfl rfl) (tm (.i (w64 (f + 1))) (aC ?_)));exact ⟨(w64 (b + (x5.length : Int)), w64 (f + 1)), h, aR [] rfl rfl (aL rfl (aL rfl (aP ⟨rfl, rfl, rfl, trivial⟩)))⟩
 ·refine cE ?_;refine .inl ⟨rfl, ?_⟩;simp only [rG] at h;refine aD (aB (tm (.i b) ?_));obtain ⟨r8, h9, h⟩ := bns h;refine bA rfl (mD (aI rfl) (.func _ _ call75) rfl rfl (aEe _ h9)) ?_;rintro _ ⟨l, rfl⟩;refine ta (.d (.lit l)) (aC (aD (aD (aB (tm (.d (.sl 1 (a.map rQ))) (to (sle rfl aBc.of) (tm (.i 0) (aC (bF ?_)))))))));refine bY (S := Int × Z75 × Value) [25, 26] (fun c => [(6, .d (.lit c.2.2)), (27, .i c.1)]) (fun c => [.arr c.2.2 3 1 (c.2.1.map aJ)]) (fun k c => iD a (a.length : Int) k c.1 c.2.1) (fun _ => rfl) (0, r8, l) h (aR [0] rfl rfl (aL rfl (aL rfl (aP ⟨rfl, rfl, trivial⟩)))) ?_;rintro t ⟨e, j, g⟩ h;simp only [iD] at h;refine aD (aB (to (scm rfl rfl rfl) (aC (aD ?_))));refine tih h (fun o h => ?_) (fun o h => ?_)
  ·refine aV (aD (bF (aD (aB ?_))));obtain ⟨m, p, h⟩ := bns h;refine to (six rfl rfl aBc.of (bC rQ p)) (to (slc rfl dA) (ta (.d (.sl 1 (m.map aJ))) (aC (aB (tm (.d (.lit g)) (tm (.d (.sl 1 (m.map aJ))) ?_))))));obtain ⟨q, s, h⟩ := bns h;refine bA rfl (jC (i := 0) (aI rfl) bZ rfl rfl rfl (fun _ => rfl) s rfl) ?_;rintro _ ⟨n, rfl⟩;refine ta (.d (.lit n)) ?_;refine cM ?_;refine aB (to (sar rfl rfl rfl) (tm (.i (w64 (e + 1))) (aC ?_)));exact ⟨(w64 (e + 1), q, n), h, aR [0] rfl rfl (aL rfl (aL rfl (aP ⟨rfl, rfl, trivial⟩)))⟩
  ·refine cE ?_;refine .inl ⟨rfl, ?_⟩;simp only [vH] at h;refine aD (aB (tm (.d (.lit g)) (ta (.d (.lit g)) (aC ?_))));obtain rfl := sIn h;exact cS ⟨rfl, _, [.arr g 3 1 (j.map aJ)], [], _, .one (.tmp 2 (v := .d (.lit g)) rfl), .refl _, .same _, g, rfl, rfl⟩

theorem wU (a : aO) {r : (List Int)} (h : fH a = some r) : dB Tryz.prog 23 [.cp (bX a)] [] (fun r' o' => ∃ (w0 : Value), r' = .d (.lit w0) ∧ o' = [.arr w0 3 1 (r.map aJ)]) := by
 unfold fH at h;refine iN func23 rfl (rs := [.tmp 2]) results23 ntmps23 (Nat.le_of_ble_eq_true rfl) ?_;refine aD (aB (to (fP 3 1 (.inl rfl) (aI rfl)) ?_));refine aC (aD (aD (aB (tm (Z1 a) (to (dZ (aI rfl) rfl) ?_)))));refine to (sfc [.k a.frozen] rfl vS) (to (slc rfl fI) (to (sn rfl) (aC ?_)));refine tih h (fun c2 h => ?_) (fun c2 h => ?_)
 ·refine aD (aB (tm (Z1 a) ?_));obtain ⟨r3, h4, h⟩ := bns h;refine bA rfl (mD (aI rfl) (.func _ _ call45) rfl rfl (rC _ h4)) ?_;rintro _ ⟨v5, rfl⟩;refine ta (.d (.lit v5)) (aC ?_);obtain rfl := sIn h;refine bL (aR [1, 0] rfl rfl (le_refl _)) ?_;exact cS ⟨rfl, _, [.arr v5 3 1 (r3.map aJ)], Z30, _, .one (.tmp 2 (v := .d (.lit v5)) rfl), .refl _, .same _, v5, rfl, rfl⟩
 ·refine aV (aD ?_);refine cG mix 8 [] [(13, .d (.sl 1 (Z14 a))), (17, .d (.sl 1 (Z18 a)))] ?_ ?_
  ·refine ⟨[(10, 0, .cp [.j a.Field.Places, .j a.Field.Wilds, .j a.Field.Guards, .j a.Field.Close, .j a.Field.Freeze, .mp true (a.players.map fun p : Int × aA => (VI p.1, aE p.2)), .sl 1 (Z17 a), .k a.frozen, .sl 1 (Z14 a), .sl 1 (Z18 a), .j a.more, .j a.entered]), (11, 1, .cp [.j a.Field.Places, .j a.Field.Wilds, .j a.Field.Guards, .j a.Field.Close, .j a.Field.Freeze, .mp true (a.players.map fun p : Int × aA => (VI p.1, aE p.2)), .sl 1 (Z17 a), .k a.frozen, .sl 1 (Z14 a), .sl 1 (Z18 a), .j a.more, .j a.entered]), (12, 2, .cp [.sl 1 (Z14 a)]), (13, 3, .d (.sl 1 (Z14 a))), (14, 4, .cp [.j a.Field.Places, .j a.Field.Wilds, .j a.Field.Guards, .j a.Field.Close, .j a.Field.Freeze, .mp true (a.players.map fun p : Int × aA => (VI p.1, aE p.2)), .sl 1 (Z17 a), .k a.frozen, .sl 1 (Z14 a), .sl 1 (Z18 a), .j a.more, .j a.entered]), (15, 5, .cp [.j a.Field.Places, .j a.Field.Wilds, .j a.Field.Guards, .j a.Field.Close, .j a.Field.Freeze, .mp true (a.players.map fun p : Int × aA => (VI p.1, aE p.2)), .sl 1 (Z17 a), .k a.frozen, .sl 1 (Z14 a), .sl 1 (Z18 a), .j a.more, .j a.entered]), (16, 6, .cp [.sl 1 (Z18 a)]), (17, 7, .d (.sl 1 (Z18 a)))], ?_, ?_⟩
   · exact dk [0, 1, 2, 3, 0, 5, 6, 7] ⟨go (zm (Z1 a)),
 go fun S hS => dZ (aI rfl) (aT hS rfl),
 go (zfc [.sl 1 (Z14 a)] rfl yU),
 go (zlc rfl dA),
 go (zm (Z1 a)),
 go fun S hS => dZ (aI rfl) (aT hS rfl),
 go (zfc [.sl 1 (Z18 a)] rfl vT),
 go (zlc rfl dA), trivial⟩
   · exact bP (aL rfl (aL rfl (aP trivial)))
  ·refine to (gK (aI rfl) aBc rfl rfl (rows := ([a.first, a.late]).map rQ) rfl (bD (f := rQ) fun _ => rfl) rfl (by decide)) ?_;obtain ⟨r6, h7, h⟩ := bns h;refine bA rfl (mD (aI rfl) (.func _ _ call46) rfl rfl (vI _ h7)) ?_;rintro _ ⟨v8, rfl⟩;refine ta (.d (.lit v8)) (aC ?_);obtain rfl := sIn h;refine bL (aR [1, 0] rfl rfl (le_refl _)) ?_;exact cS ⟨rfl, _, [.arr v8 3 1 (r6.map aJ)], Z30, _, .one (.tmp 2 (v := .d (.lit v8)) rfl), .refl _, .same _, v8, rfl, rfl⟩

theorem xH (b : List Int) (c : Int) {r : Int} (h : iH b c = some r) : Fn Tryz.prog 35 [.d (Z35 b), .i c] (.i r) := by
 unfold iH at h;refine oT [.tmp 4] func35 results35 ntmps35 ?_;refine aD (aB (ta (.i 0) (aC (aD (aD (aB (tm (.d (Z35 b)) (to (sle rfl bZ.of) (tm (.i 0) (aC (bF ?_)))))))))));refine bY (S := Int) [0, 1, 7] (fun s1 => [(8, .i s1)]) (fun s1 => []) (fun k s1 => eB b c (b.length : Int) k s1) (fun _ => rfl) (0) h (aR [] rfl rfl (aL rfl (aP ⟨rfl, rfl, rfl, trivial⟩))) ?_;rintro k2 a h;simp only [eB] at h;refine aD (aB (to (scm rfl rfl rfl) (aC (aD ?_))));refine tih h (fun c3 h => ?_) (fun c3 h => ?_)
 ·refine aV (aD (bF (aD (aB (tm (.i a) (ta (.i a) (aC (aD (aB (tm (.i c) (tm (.d (Z35 b)) (tm (.i a) ?_))))))))))));obtain ⟨x4, h5, h⟩ := bns h;refine to (six rfl rfl bZ.of (bC aJ h5)) (to (slc rfl aS) (to (scm rfl rfl rfl) (aC ?_)));refine tih h (fun c6 h => ?_) (fun c6 h => ?_)
  ·refine aD (aB (tm (.i a) (ta (.i a) (aC ?_))));obtain rfl := sIn h;exact rt
  ·refine cK ?_;refine aB (to (sar rfl rfl rfl) (tm (.i (w64 (a + 1))) (aC ?_)));exact ⟨(w64 (a + 1)), h, aR [] rfl rfl (aL rfl (aP ⟨rfl, rfl, rfl, trivial⟩))⟩
 ·refine cE ?_;refine .inl ⟨rfl, ?_⟩;simp only [mY] at h;refine aD (aB (ta (.i (-1)) (aC ?_)));obtain rfl := sIn h;exact rt

theorem lP (a : List Int) (c : Int) {r : Bool} (h : fO a c = some r) : Fn Tryz.prog 28 [.d (Z35 a), .i c] (.b r) := by
 unfold fO at h;refine oT [.tmp 4] func28 results28 ntmps28 ?_;refine aD (aB (ta Z12 (aC (aD (aB (tm (.d (Z35 a)) (tm (.i c) ?_)))))));obtain ⟨r1, h2, h⟩ := bns h;refine to (scr call35 (xH _ _ h2)) (to (scm rfl rfl rfl) (ta (.b (decide (0 ≤ r1))) (aC ?_)));obtain rfl := sIn h;exact rt

theorem aCv (e : Int) (c : aO) (j : List Int) {r : Bool} (h : mI e c j = some r) : Fn Tryz.prog 98 [.i e, .cp [.pt (bX c)], .cp [.sl 1 (j.map aJ)]] (.b r) := by
 unfold mI at h;refine oT [.tmp 4] func98 results98 ntmps98 ?_;refine aD (aB (ta Z12 (aC (aD (aB (to (xD (.ptc _) (pY (aI rfl) rfl kP)) ?_))))));refine to (dZ (aI rfl) rfl) ?_;refine to (sfc [.mp true (c.players.map fun p : Int × aA => (VI p.1, aE p.2))] rfl fC) (to (slc rfl jA) (tm (.i e) (to (oN (enc := aE) (agg := true) (l := c.players) (z := Z2) (a := e) (aI rfl) kL underlying67 zeroValue75 (fun _ _ => .agg (oM rfl)) rfl rfl rfl rfl (eE (kv := VI) e)) ?_)));refine bA rfl (eA (zs := [.k false, .k false, .j 0, .j 0, .k false, .k false, .k false, .k false]) (aI rfl) zeroValue75 rfl rfl) ?_;rintro _ ⟨b1, rfl⟩;refine to (sst 0 rfl rfl sizeOf75 (aE (Z20 e c))) (aC (aD ?_));obtain ⟨b2, h3, h⟩ := bns h;obtain ⟨b7, h8, h⟩ := bns h;refine cG mix 24 [] [(35, .b b7)] ?_ ?_
 ·refine bch h3 (fun c4 h3 => ?_) (fun c4 h3 => ?_)
  ·obtain ⟨r5, h6, h3⟩ := bns h3;obtain rfl := sIn h3;refine bch h8 (fun c9 h8 => ?_) (fun c9 h8 => ?_)
   ·obtain ⟨o, g, h8⟩ := bns h8;refine bch g (fun f g => ?_) (fun f g => ?_)
    ·obtain rfl := sIn g;obtain rfl := sIn h8;refine ⟨[(12, 0, .bp b1 0 5), (13, 1, .b (Z60 e c)), (14, 2, .b (Z60 e c)), (15, 3, .d (Z35 j)), (16, 4, .i e), (17, 5, .b r5), (18, 6, .b (!r5)), (19, 7, .b (!r5)), (20, 8, .b (!r5)), (21, 9, .bp b1 0 1), (22, 10, .b ((Z20 e c).guard)), (23, 11, .b (!((Z20 e c).guard))), (24, 12, .b (!((Z20 e c).guard))), (25, 13, .tup []), (26, 14, .tup []), (27, 15, .tup []), (28, 16, .tup []), (29, 17, .tup []), (30, 18, .tup []), (31, 19, .tup []), (32, 20, .tup []), (33, 21, .tup []), (34, 22, .b true), (35, 23, .b (true))], ?_, ?_⟩
     · exact dk [0, 1, 2, 3, 3, 30405, 306, 307, 8, 9, 910, 911, 912, 13, 13, 131415, 13, 1317, 1318, 1319, 1320, 131621, 91322, 923] ⟨go (zf rfl vW),
 go (zl 0 rfl rfl rfl fI),
 go (zm (.b (Z60 e c))),
 gt c4 (zlc rfl dA),
 gt c4 (zm (.i e)),
 gt c4 fun S hS => fX (aI rfl) (.func _ _ call28) (ev2 (aT hS rfl) (ev2 (aT hS rfl) evn)) rfl (BVs.refl _ _) (lP _ _ h6) rfl,
 gt c4 (zn rfl),
 go (zpt (.b (!r5)) c4),
 go (zm (.b (!r5))),
 gt c9 (zf rfl yX),
 gt c9 (zl 0 rfl rfl rfl fI),
 gt c9 (zn rfl),
 gt c9 (zm (.b (!((Z20 e c).guard)))),
 gp f,
 gp f,
 gp f,
 gp f,
 gp f,
 gp f,
 gp f,
 gp f,
 gp f,
 gt c9 (zpt Z44 f),
 go (zpt (.b (true)) c9), trivial⟩
     · exact bP (aL rfl (aP trivial))
    ·obtain ⟨k, m, g⟩ := bns g;obtain rfl := sIn g;obtain rfl := sIn h8;refine ⟨[(12, 0, .bp b1 0 5), (13, 1, .b (Z60 e c)), (14, 2, .b (Z60 e c)), (15, 3, .d (Z35 j)), (16, 4, .i e), (17, 5, .b r5), (18, 6, .b (!r5)), (19, 7, .b (!r5)), (20, 8, .b (!r5)), (21, 9, .bp b1 0 1), (22, 10, .b ((Z20 e c).guard)), (23, 11, .b (!((Z20 e c).guard))), (24, 12, .b (!((Z20 e c).guard))), (25, 13, .cp [.j c.Field.Places, .j c.Field.Wilds, .j c.Field.Guards, .j c.Field.Close, .j c.Field.Freeze, .mp true (c.players.map fun p : Int × aA => (VI p.1, aE p.2)), .sl 1 (Z17 c), .k c.frozen, .sl 1 (Z14 c), .sl 1 (Z18 c), .j c.more, .j c.entered]), (26, 14, .d (Z35 j)), (27, 15, .i k), (28, 16, .cp [.j c.Field.Places, .j c.Field.Wilds, .j c.Field.Guards, .j c.Field.Close, .j c.Field.Freeze, .mp true (c.players.map fun p : Int × aA => (VI p.1, aE p.2)), .sl 1 (Z17 c), .k c.frozen, .sl 1 (Z14 c), .sl 1 (Z18 c), .j c.more, .j c.entered]), (29, 17, .cp [.j c.Field.Places, .j c.Field.Wilds, .j c.Field.Guards, .j c.Field.Close, .j c.Field.Freeze, .mp true (c.players.map fun p : Int × aA => (VI p.1, aE p.2)), .sl 1 (Z17 c), .k c.frozen, .sl 1 (Z14 c), .sl 1 (Z18 c), .j c.more, .j c.entered]), (30, 18, .cp [.j c.Field.Places, .j c.Field.Wilds, .j c.Field.Guards, .j c.Field.Close, .j c.Field.Freeze]), (31, 19, .cp [.j c.Field.Guards]), (32, 20, .i c.Field.Guards), (33, 21, .b (decide (k < c.Field.Guards))), (34, 22, .b (decide (k < c.Field.Guards))), (35, 23, .b (decide (k < c.Field.Guards)))], ?_, ?_⟩
     · exact dk [0, 1, 2, 3, 3, 30405, 306, 307, 8, 9, 910, 911, 912, 13, 13, 131415, 13, 1317, 1318, 1319, 1320, 131621, 91322, 923] ⟨go (zf rfl vW),
 go (zl 0 rfl rfl rfl fI),
 go (zm (.b (Z60 e c))),
 gt c4 (zlc rfl dA),
 gt c4 (zm (.i e)),
 gt c4 fun S hS => fX (aI rfl) (.func _ _ call28) (ev2 (aT hS rfl) (ev2 (aT hS rfl) evn)) rfl (BVs.refl _ _) (lP _ _ h6) rfl,
 gt c4 (zn rfl),
 go (zpt (.b (!r5)) c4),
 go (zm (.b (!r5))),
 gt c9 (zf rfl yX),
 gt c9 (zl 0 rfl rfl rfl fI),
 gt c9 (zn rfl),
 gt c9 (zm (.b (!((Z20 e c).guard)))),
 gt f fun S hS => xD (.ptc _) (pY (aI rfl) (aT hS rfl) kP),
 gt f (zlc rfl dA),
 gt f fun S hS => fX (aI rfl) (.func _ _ call74) (ev2 (aT hS rfl) (ev2 (aT hS rfl) evn)) rfl (BVs.refl _ _) (vM _ _ m) rfl,
 gt f fun S hS => xD (.ptc _) (pY (aI rfl) (aT hS rfl) kP),
 gt f fun S hS => dZ (aI rfl) (aT hS rfl),
 gt f (zfc [.j c.Field.Places, .j c.Field.Wilds, .j c.Field.Guards, .j c.Field.Close, .j c.Field.Freeze] rfl kC),
 gt f (zfc [.j c.Field.Guards] rfl aBv),
 gt f (zlc rfl aS),
 gt f (zcm rfl rfl rfl),
 gt c9 (zpf (.b (decide (k < c.Field.Guards))) f),
 go (zpt (.b (decide (k < c.Field.Guards))) c9), trivial⟩
     · exact bP (aL rfl (aP trivial))
   ·obtain rfl := sIn h8;refine ⟨[(12, 0, .bp b1 0 5), (13, 1, .b (Z60 e c)), (14, 2, .b (Z60 e c)), (15, 3, .d (Z35 j)), (16, 4, .i e), (17, 5, .b r5), (18, 6, .b (!r5)), (19, 7, .b (!r5)), (20, 8, .b (!r5)), (21, 9, .tup []), (22, 10, .tup []), (23, 11, .tup []), (24, 12, .tup []), (25, 13, .tup []), (26, 14, .tup []), (27, 15, .tup []), (28, 16, .tup []), (29, 17, .tup []), (30, 18, .tup []), (31, 19, .tup []), (32, 20, .tup []), (33, 21, .tup []), (34, 22, .tup []), (35, 23, .b false)], ?_, ?_⟩
    · exact dk [0, 1, 2, 3, 3, 30405, 306, 307, 8, 9, 910, 911, 912, 13, 13, 131415, 13, 1317, 1318, 1319, 1320, 131621, 91322, 923] ⟨go (zf rfl vW),
 go (zl 0 rfl rfl rfl fI),
 go (zm (.b (Z60 e c))),
 gt c4 (zlc rfl dA),
 gt c4 (zm (.i e)),
 gt c4 fun S hS => fX (aI rfl) (.func _ _ call28) (ev2 (aT hS rfl) (ev2 (aT hS rfl) evn)) rfl (BVs.refl _ _) (lP _ _ h6) rfl,
 gt c4 (zn rfl),
 go (zpt (.b (!r5)) c4),
 go (zm (.b (!r5))),
 gp c9,
 gp c9,
 gp c9,
 gp c9,
 gq,
 gq,
 gq,
 gq,
 gq,
 gq,
 gq,
 gq,
 gq,
 gp c9,
 go (zpf Z12 c9), trivial⟩
    · exact bP (aL rfl (aP trivial))
  ·obtain rfl := sIn h3;have c9 : false = false := rfl;have h8 := nQ c9 h8;obtain rfl := sIn h8;refine ⟨[(12, 0, .bp b1 0 5), (13, 1, .b (Z60 e c)), (14, 2, .b (Z60 e c)), (15, 3, .tup []), (16, 4, .tup []), (17, 5, .tup []), (18, 6, .tup []), (19, 7, .b false), (20, 8, .b (false)), (21, 9, .tup []), (22, 10, .tup []), (23, 11, .tup []), (24, 12, .tup []), (25, 13, .tup []), (26, 14, .tup []), (27, 15, .tup []), (28, 16, .tup []), (29, 17, .tup []), (30, 18, .tup []), (31, 19, .tup []), (32, 20, .tup []), (33, 21, .tup []), (34, 22, .tup []), (35, 23, .b false)], ?_, ?_⟩
   · exact dk [0, 1, 2, 3, 3, 30405, 306, 307, 8, 9, 910, 911, 912, 13, 13, 131415, 13, 1317, 1318, 1319, 1320, 131621, 91322, 923] ⟨go (zf rfl vW),
 go (zl 0 rfl rfl rfl fI),
 go (zm (.b (Z60 e c))),
 gp c4,
 gp c4,
 gp c4,
 gp c4,
 go (zpf Z12 c4),
 go (zm Z66),
 gp c9,
 gp c9,
 gp c9,
 gp c9,
 gq,
 gq,
 gq,
 gq,
 gq,
 gq,
 gq,
 gq,
 gq,
 gp c9,
 go (zpf Z12 c9), trivial⟩
   · exact bP (aL rfl (aP trivial))
 ·refine ta (.b b7) (aC ?_);obtain rfl := sIn h;refine bL (bG (bI (l := [4]) ⟨rfl, trivial⟩)) ?_;exact rt

end Go.Am
