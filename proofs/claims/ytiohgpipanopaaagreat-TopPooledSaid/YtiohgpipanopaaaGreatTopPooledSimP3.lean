/- The functions compute what the shallow ones say: printed by program. -/
import Derived.Test.YtiohgpipanopaaaGreatTopPooledSimP2
namespace Go.Am
open Go.Proofs
open Go.Proofs.Tryz
set_option maxRecDepth 100000
set_option maxHeartbeats 40000000

theorem aVg (q : List aN) {r : (List aN) × Bool} (h : aJa q = some r) : Fn Tryz.prog 161 [.d (.sl 4 (q.map aI))] (.tup [.d (.sl 4 (r.1.map aI)), .b r.2]) := by
 unfold aJa at h;refine oT [.tmp 2, .tmp 3] func161 results161 ntmps161 ?_;refine aC (aA (to (sV 4 (aE rfl)) ?_));refine ta Z2 (aB (aC (aA (tm (.d (.sl 4 (q.map aI))) ?_))));obtain ⟨r1, h2, h⟩ := bns h;refine bG rfl (aDj (aE rfl) (.func _ _ call203) rfl rfl (aFb _ h2)) ?_;rintro _ ⟨v3, rfl⟩;refine ta (.d (.lit v3)) (aB (aC (aA (tm (.d (.lit v3)) ?_))));obtain ⟨r6, h7, h⟩ := bns h;refine bG rfl (dU (passed := [.arr v3 240 4 (r1.map aI)]) (aE rfl) rfl (.func _ _ call204) rfl rfl (zD r1 (fun y4 y5 => aAf y4 y5) 205 [] call205 (fun _ _ _ h => aRk _ _ h) h7)) ?_;rintro _ ⟨_, _, ⟨rfl, rfl⟩, rfl⟩;refine aB (aC (aC (aA (ta (.i 1) (aB (bD ?_))))));refine bP (S := Int) [4] (fun s8 => [(5, .i s8)]) (fun s8 => [.arr v3 240 4 (r6.map aI)]) (fun k s8 => yR r6 k s8) (fun _ => rfl) (1) h (aO [0] rfl rfl (aH rfl (aK (ae rfl)))) ?_;rintro k9 c h;simp only [yR] at h;refine aC (aC (aA (tm (.i c) (tm (.d (.lit v3)) (to (iH (m := 0) (aE rfl) rfl rfl cQ.of) ?_)))));refine to (scm rfl rfl rfl) (aB ?_);refine tih h (fun x h => ?_) (fun x h => ?_)
 ·refine aU (aC (bD (aC ?_)));obtain ⟨j, s, h⟩ := bns h;obtain ⟨n, t, h⟩ := bns h;obtain ⟨y, g, h⟩ := bns h;refine cI mix 24 [4, 5] [(39, .b y)] ?_ ?_
  ·refine bch g (fun e g => ?_) (fun e g => ?_)
   ·obtain ⟨o, u, g⟩ := bns g;obtain ⟨p, w, g⟩ := bns g;obtain rfl := sIn g;refine ⟨[(16, 0, .d (.lit v3)), (17, 1, .i c), (18, 2, .ep v3 4 c.toNat 0), (19, 3, .ep v3 4 c.toNat 0), (20, 4, .i j.Id), (21, 5, .d (.lit v3)), (22, 6, .i c), (23, 7, .i (w64 (c - 1))), (24, 8, .ep v3 4 (w64 (c - 1)).toNat 0), (25, 9, .ep v3 4 (w64 (c - 1)).toNat 0), (26, 10, .i n.Id), (27, 11, .b (decide (j.Id = n.Id))), (28, 12, .b (decide (j.Id = n.Id))), (29, 13, .d (.lit v3)), (30, 14, .i c), (31, 15, .ep v3 4 c.toNat 0), (32, 16, .agg (aI o)), (33, 17, .d (.lit v3)), (34, 18, .i c), (35, 19, .i (w64 (c - 1))), (36, 20, .ep v3 4 (w64 (c - 1)).toNat 0), (37, 21, .agg (aI p)), (38, 22, .b (!decide (o = p))), (39, 23, .b (!decide (o = p)))], ?_, ?_⟩
    · exact dk [0, 0, 102, 3, 4, 0, 0, 7, 608, 9, 10, 511, 12, 13, 13, 131415, 1316, 13, 13, 1319, 131820, 1321, 131722, 1323] ⟨go (zm (.d (.lit v3))),
 go (zm (.i c)),
 go (zia 0 rfl rfl rfl cQ.of (aW aI s)),
 go fun S hS => aDk (aE rfl) (aX hS rfl) mC,
 go fun S hS => gJ (aE rfl) (aX hS rfl) (m := 0) rfl (dI aI s) rfl aQ,
 go (zm (.d (.lit v3))),
 go (zm (.i c)),
 go (zar rfl rfl rfl),
 go (zia 0 rfl rfl rfl cQ.of (aW aI t)),
 go fun S hS => aDk (aE rfl) (aX hS rfl) mC,
 go fun S hS => gJ (aE rfl) (aX hS rfl) (m := 0) rfl (dI aI t) rfl aQ,
 go (zcm rfl rfl rfl),
 go (zm (.b (decide (j.Id = n.Id)))),
 gt e (zm (.d (.lit v3))),
 gt e (zm (.i c)),
 gt e (zia 0 rfl rfl rfl cQ.of (aW aI u)),
 gt e fun S hS => dQ (aE rfl) (aX hS rfl) (l := 0) rfl (dI aI u) eU (es := (aI o)) rfl rfl,
 gt e (zm (.d (.lit v3))),
 gt e (zm (.i c)),
 gt e (zar rfl rfl rfl),
 gt e (zia 0 rfl rfl rfl cQ.of (aW aI w)),
 gt e fun S hS => dQ (aE rfl) (aX hS rfl) (l := 0) rfl (dI aI w) eU (es := (aI p)) rfl rfl,
 gt e fun S hS => aMl (a := o) (b := p) (aE rfl) (aX hS rfl) (aX hS rfl) rfl rfl Tryz.eqGuardType240 aMd,
 go (zpt (.b (!decide (o = p))) e), trivial⟩
    · exact bT (aH rfl (aK (ae rfl)))
   ·obtain rfl := sIn g;refine ⟨[(16, 0, .d (.lit v3)), (17, 1, .i c), (18, 2, .ep v3 4 c.toNat 0), (19, 3, .ep v3 4 c.toNat 0), (20, 4, .i j.Id), (21, 5, .d (.lit v3)), (22, 6, .i c), (23, 7, .i (w64 (c - 1))), (24, 8, .ep v3 4 (w64 (c - 1)).toNat 0), (25, 9, .ep v3 4 (w64 (c - 1)).toNat 0), (26, 10, .i n.Id), (27, 11, .b (decide (j.Id = n.Id))), (28, 12, .b (decide (j.Id = n.Id))), (29, 13, .tup []), (30, 14, .tup []), (31, 15, .tup []), (32, 16, .tup []), (33, 17, .tup []), (34, 18, .tup []), (35, 19, .tup []), (36, 20, .tup []), (37, 21, .tup []), (38, 22, .tup []), (39, 23, .b false)], ?_, ?_⟩
    · exact dk [0, 0, 102, 3, 4, 0, 0, 7, 608, 9, 10, 511, 12, 13, 13, 131415, 1316, 13, 13, 1319, 131820, 1321, 131722, 1323] ⟨go (zm (.d (.lit v3))),
 go (zm (.i c)),
 go (zia 0 rfl rfl rfl cQ.of (aW aI s)),
 go fun S hS => aDk (aE rfl) (aX hS rfl) mC,
 go fun S hS => gJ (aE rfl) (aX hS rfl) (m := 0) rfl (dI aI s) rfl aQ,
 go (zm (.d (.lit v3))),
 go (zm (.i c)),
 go (zar rfl rfl rfl),
 go (zia 0 rfl rfl rfl cQ.of (aW aI t)),
 go fun S hS => aDk (aE rfl) (aX hS rfl) mC,
 go fun S hS => gJ (aE rfl) (aX hS rfl) (m := 0) rfl (dI aI t) rfl aQ,
 go (zcm rfl rfl rfl),
 go (zm (.b (decide (j.Id = n.Id)))),
 gp e,
 gp e,
 gp e,
 gp e,
 gp e,
 gp e,
 gp e,
 gp e,
 gp e,
 gp e,
 go (zpf Z2 e), trivial⟩
    · exact bT (aH rfl (aK (ae rfl)))
  ·refine aB ?_;refine tih h (fun z h => ?_) (fun z h => ?_)
   ·refine aC (aA (to (sV 4 (aE rfl)) ?_));refine ta Z2 (aB ?_);obtain rfl := sIn h;refine bK (bE (bH (l := [2, 3]) (ae rfl))) ?_;exact cD ⟨rfl, _, .two _ _, rfl, rfl⟩
   ·refine cA ?_;refine aA (tm (.i c) (to (sar rfl rfl rfl) (ta (.i (w64 (c + 1))) (aB ?_))));exact ⟨(w64 (c + 1)), h, aO [0] rfl rfl (aH rfl (aK (ae rfl)))⟩
 ·refine bO ?_;refine .inl ⟨rfl, ?_⟩;simp only [aJq] at h;refine aC (aA (tm (.d (.lit v3)) ?_));obtain ⟨A, B, h⟩ := bns h;refine bG rfl (dU (passed := [.arr v3 240 4 (r6.map aI)]) (aE rfl) rfl (.func _ _ call206) rfl rfl (aDn r6 B)) ?_;rintro _ ⟨_, _, ⟨C, rfl, rfl⟩, rfl⟩;refine ta (.d (.lit C)) (ta Z14 (aB ?_));obtain rfl := sIn h;refine bK (bE (pQ (k := 3) (v := .b true) (.same _) (pQ (k := 2) (v := .d (.sl 4 (A.map aI))) (.d (gZ 0 rfl (bY (f := aI) fun _ => rfl))) (aDu)))) ?_;exact cD ⟨rfl, _, .two _ _, rfl, rfl⟩

theorem aOj (o : bB) {r : Bool} (h : oL o = some r) : Fn Tryz.prog 102 [.agg (aY o)] (.b r) := by
 unfold oL at h;refine oT [.tmp 2] func102 results102 ntmps102 ?_;refine aC (aA ?_);refine bG rfl (cV (v := .agg (aY o)) (aE rfl) rfl rfl rfl) ?_;rintro _ ⟨b1, rfl⟩;refine ta Z2 (aB (aC (aA (to (sla 0 (aY o) rfl rfl fK) ?_))));obtain ⟨r2, h3, h⟩ := bns h;refine to (eO (aE rfl) (.func _ _ call155) rfl rfl (aGc _ h3)) ?_;refine ta (.d (.sl 1 (r2.map aF))) (aB (aC (aC (aA (tfl 0 rfl rfl sQ rfl xP (to (sle rfl cQ.of) (tm (.i 0) (aB (bD ?_)))))))));refine bP (S := Int) [1, 3, 12, 13] (fun s4 => [(14, .i s4)]) (fun s4 => [.box b1 0 (aY o)]) (fun k s4 => lA r2 o.Items (o.Items.length : Int) o k s4) (fun _ => rfl) (0) h (aO [0] rfl rfl (aH rfl (aK (ae rfl)))) ?_;rintro k5 g h;simp only [lA] at h;refine aC (aA (to (scm rfl rfl rfl) (aB (aC ?_))));refine tih h (fun c6 h => ?_) (fun c6 h => ?_)
 ·refine aU (aC (bD (aC (aA ?_))));obtain ⟨x7, h8, h⟩ := bns h;refine to (six rfl rfl cQ.of (aW aI h8)) (to (tG (aI x7) rfl eU) ?_);refine bG rfl (cJ (zs := [.j 0, .j 0, .j 0, .j 0]) (aE rfl) zeroValue240 rfl rfl) ?_;rintro _ ⟨b9, rfl⟩;refine to (sst 1 rfl rfl sizeOf240 (aI x7)) (aB (aC (aA (ta (.i 10000000) (aB (aC (aC (aA (tfl 1 rfl rfl wX rfl aQ (to (scm rfl rfl rfl) (aB ?_)))))))))));refine tih h (fun L h => ?_) (fun L h => ?_)
  ·refine aA (ta (.i 30) (aB (aC (aA (tfl 1 rfl rfl wX rfl aQ (to (scm rfl rfl rfl) (tm (.b (!decide (x7.Kind = 1))) ?_)))))));obtain ⟨E, A, h⟩ := bns h;refine aV 4 [1, 3, 5, 6, 12, 13, 14] 28 E ?_ ?_
   ·refine bch A (fun p A => ?_) (fun p A => ?_)
    ·refine tkl 1 p rfl rfl wX rfl aQ (tk p (scm rfl rfl rfl) (to (spt (.b (!decide (x7.Kind = 2))) p) ?_));obtain rfl := sIn A;refine aB (aJ rfl (ae rfl) rfl)
    ·refine tp p (tp p (tp p (to (spf Z2 p) ?_)));obtain rfl := sIn A;refine aB (aJ rfl (ae rfl) rfl)
   ·refine tm (.b E) ?_;obtain ⟨F, s, h⟩ := bns h;refine aV 5 [1, 3, 5, 6, 12, 13, 14] 34 F ?_ ?_
    ·refine bch s (fun j s => ?_) (fun j s => ?_)
     ·refine tp j (tp j (tp j (tp j (to (spt Z14 j) ?_))));obtain rfl := sIn s;refine aB (aJ rfl (ae rfl) rfl)
     ·refine tkl 1 j rfl rfl mC rfl aQ ?_;obtain ⟨M, N, s⟩ := bns s;refine tk j (scr call154 (gC _ _ _ N)) (tk j (sn rfl) (to (spf (.b (!M)) j) ?_));obtain rfl := sIn s;refine aB (aJ rfl (ae rfl) rfl)
    ·refine tm (.b F) ?_;obtain ⟨G, t, h⟩ := bns h;refine aV 6 [1, 3, 5, 6, 12, 13, 14] 41 G ?_ ?_
     ·refine bch t (fun a t => ?_) (fun a t => ?_)
      ·refine tp a (tp a (tp a (tp a (tp a (to (spt Z14 a) ?_)))));obtain rfl := sIn t;refine aB (aJ rfl (ae rfl) rfl)
      ·refine tk a (sm (.d (.sl 1 (r2.map aF)))) (tkl 1 a rfl rfl aKr rfl aQ ?_);obtain ⟨O, P, t⟩ := bns t;refine tk a (scr call91 (cX _ _ P)) (tk a (sn rfl) (to (spf (.b (!O)) a) ?_));obtain rfl := sIn t;refine aB (aJ rfl (ae rfl) rfl)
     ·refine tm (.b G) ?_;obtain ⟨Q, u, h⟩ := bns h;refine aV 6 [1, 3, 12, 13, 14] 48 Q ?_ ?_
      ·refine bch u (fun c u => ?_) (fun c u => ?_)
       ·refine tp c (tp c (tp c (tp c (tp c (to (spt Z14 c) ?_)))));obtain rfl := sIn u;refine aB (aJ rfl (ae rfl) rfl)
       ·refine tkl 1 c rfl rfl aFr rfl aQ (tk c (sm (.i 30)) ?_);obtain ⟨T, U, u⟩ := bns u;refine tk c (scr call154 (gC _ _ _ U)) (tk c (sn rfl) (to (spf (.b (!T)) c) ?_));obtain rfl := sIn u;refine aB (aJ rfl (ae rfl) rfl)
      ·refine aB ?_;refine tih h (fun V h => ?_) (fun V h => ?_)
       ·refine aC (aA (ta Z2 (aB ?_)));obtain rfl := sIn h;refine bK (bE (bH (l := [2]) (ae rfl))) ?_;exact rt
       ·refine cA ?_;refine aA (to (sar rfl rfl rfl) (tm (.i (w64 (g + 1))) (aB ?_)));exact ⟨(w64 (g + 1)), h, aO [0] rfl rfl (aH rfl (aK (ae rfl)))⟩
  ·refine aU (aC (aA (tfl 1 rfl rfl wX rfl aQ (to (scm rfl rfl rfl) (tm (.b (!decide (x7.Kind = 1))) ?_)))));obtain ⟨H, B, h⟩ := bns h;refine aV 4 [1, 3, 5, 6, 12, 13, 14] 28 H ?_ ?_
   ·refine bch B (fun q B => ?_) (fun q B => ?_)
    ·refine tkl 1 q rfl rfl wX rfl aQ (tk q (scm rfl rfl rfl) (to (spt (.b (!decide (x7.Kind = 2))) q) ?_));obtain rfl := sIn B;refine aB (aJ rfl (ae rfl) rfl)
    ·refine tp q (tp q (tp q (to (spf Z2 q) ?_)));obtain rfl := sIn B;refine aB (aJ rfl (ae rfl) rfl)
   ·refine tm (.b H) ?_;obtain ⟨I, w, h⟩ := bns h;refine aV 5 [1, 3, 5, 6, 12, 13, 14] 34 I ?_ ?_
    ·refine bch w (fun m w => ?_) (fun m w => ?_)
     ·refine tp m (tp m (tp m (tp m (to (spt Z14 m) ?_))));obtain rfl := sIn w;refine aB (aJ rfl (ae rfl) rfl)
     ·refine tkl 1 m rfl rfl mC rfl aQ ?_;obtain ⟨W, X, w⟩ := bns w;refine tk m (scr call154 (gC _ _ _ X)) (tk m (sn rfl) (to (spf (.b (!W)) m) ?_));obtain rfl := sIn w;refine aB (aJ rfl (ae rfl) rfl)
    ·refine tm (.b I) ?_;obtain ⟨J, x, h⟩ := bns h;refine aV 6 [1, 3, 5, 6, 12, 13, 14] 41 J ?_ ?_
     ·refine bch x (fun e x => ?_) (fun e x => ?_)
      ·refine tp e (tp e (tp e (tp e (tp e (to (spt Z14 e) ?_)))));obtain rfl := sIn x;refine aB (aJ rfl (ae rfl) rfl)
      ·refine tk e (sm (.d (.sl 1 (r2.map aF)))) (tkl 1 e rfl rfl aKr rfl aQ ?_);obtain ⟨Y, Z, x⟩ := bns x;refine tk e (scr call91 (cX _ _ Z)) (tk e (sn rfl) (to (spf (.b (!Y)) e) ?_));obtain rfl := sIn x;refine aB (aJ rfl (ae rfl) rfl)
     ·refine tm (.b J) ?_;obtain ⟨a0, y, h⟩ := bns h;refine aV 6 [1, 3, 12, 13, 14] 48 a0 ?_ ?_
      ·refine bch y (fun f y => ?_) (fun f y => ?_)
       ·refine tp f (tp f (tp f (tp f (tp f (to (spt Z14 f) ?_)))));obtain rfl := sIn y;refine aB (aJ rfl (ae rfl) rfl)
       ·refine tkl 1 f rfl rfl aFr rfl aQ (tk f (sm (.i 10000000)) ?_);obtain ⟨a1, a2, y⟩ := bns y;refine tk f (scr call154 (gC _ _ _ a2)) (tk f (sn rfl) (to (spf (.b (!a1)) f) ?_));obtain rfl := sIn y;refine aB (aJ rfl (ae rfl) rfl)
      ·refine aB ?_;refine tih h (fun a3 h => ?_) (fun a3 h => ?_)
       ·refine aC (aA (ta Z2 (aB ?_)));obtain rfl := sIn h;refine bK (bE (bH (l := [2]) (ae rfl))) ?_;exact rt
       ·refine cA ?_;refine aA (to (sar rfl rfl rfl) (tm (.i (w64 (g + 1))) (aB ?_)));exact ⟨(w64 (g + 1)), h, aO [0] rfl rfl (aH rfl (aK (ae rfl)))⟩
 ·refine bO ?_;refine .inl ⟨rfl, ?_⟩;simp only [tK] at h;refine aC (aA (tfl 0 rfl rfl sQ rfl xP ?_));obtain ⟨z, a4, h⟩ := bns h;refine to (eO (aE rfl) (.func _ _ call161) rfl rfl (aVg _ a4)) ?_;refine tm (.tup [.d (.sl 4 (z.1.map aI)), .b z.2]) (to (sex rfl rfl) (to (sex rfl rfl) (ta (.d (.sl 4 (z.1.map aI))) (ta (.b z.2) (aB (aC (aA (tm (.b z.2) (tm (.b z.2) ?_)))))))));obtain ⟨K, C, h⟩ := bns h;refine aV 5 [] 62 K ?_ ?_
  ·refine bch C (fun n C => ?_) (fun n C => ?_)
   ·refine tkl 0 n rfl rfl sQ rfl xP (tk n (sle rfl cQ.of) (tk n (scm rfl rfl rfl) (to (spt (.b (decide ((o.Items.length : Int) ≤ 40))) n) ?_)));obtain rfl := sIn C;refine aB (aJ rfl trivial rfl)
   ·refine tp n (tp n (tp n (tp n (to (spf Z2 n) ?_))));obtain rfl := sIn C;refine aB (aJ rfl trivial rfl)
  ·refine ta (.b K) (aB ?_);obtain rfl := sIn h;refine bK (bE (bH (l := [2]) (ae rfl))) ?_;exact rt

theorem yP (a : bB) {r : Int} (h : lJ a = some r) : Fn Tryz.prog 41 [.agg (aY a)] (.i r) := by
 unfold lJ at h;refine oT [.tmp 2] func41 results41 ntmps41 ?_;refine aC (aA ?_);refine bG rfl (cV (v := .agg (aY a)) (aE rfl) rfl rfl rfl) ?_;rintro _ ⟨b1, rfl⟩;refine ta (.i 0) (aB (aC (aC (aA (to (sf rfl jU) (to (sla 0 (bI a.Tree) rfl rfl kD) (tfl 0 rfl rfl uI rfl aCg ?_)))))));obtain ⟨r2, h3, h⟩ := bns h;refine to (scr call14 (aOy _ _ h3)) (ta (.i r2) (aB (aC (aA (tm (.i r2) (to (scm rfl rfl rfl) (aB ?_)))))));refine tih h (fun c4 h => ?_) (fun c4 h => ?_)
 ·refine aC (aA (tm (.i r2) (ta (.i r2) (aB ?_))));obtain rfl := sIn h;refine bK (bE (bH (l := [2]) (ae rfl))) ?_;exact rt
 ·refine aU (aC (bD (aC (aA (to (sla 0 (aY a) rfl rfl fK) ?_)))));obtain ⟨r5, h6, h⟩ := bns h;refine to (scr call100 (aQl _ h6)) (to (sn rfl) (ta (.b (!r5)) (aB ?_)));refine tih h (fun c7 h => ?_) (fun c7 h => ?_)
  ·refine aC (aA (ta (.i 100) (aB ?_)));obtain rfl := sIn h;refine bK (bE (bH (l := [2]) (ae rfl))) ?_;exact rt
  ·refine aC (aA (to (sla 0 (aY a) rfl rfl fK) ?_));obtain ⟨r8, h9, h⟩ := bns h;refine to (scr call101 (aOk _ h9)) (to (sn rfl) (ta (.b (!r8)) (aB ?_)));refine tih h (fun c h => ?_) (fun c h => ?_)
   ·refine aC (aA (ta (.i 101) (aB ?_)));obtain rfl := sIn h;refine bK (bE (bH (l := [2]) (ae rfl))) ?_;exact rt
   ·refine aC (aA (to (sla 0 (aY a) rfl rfl fK) ?_));obtain ⟨d, e, h⟩ := bns h;refine to (scr call102 (aOj _ e)) (to (sn rfl) (ta (.b (!d)) (aB ?_)));refine tih h (fun f h => ?_) (fun f h => ?_)
    ·refine aC (aA (ta (.i 102) (aB ?_)));obtain rfl := sIn h;refine bK (bE (bH (l := [2]) (ae rfl))) ?_;exact rt
    ·refine cA ?_;refine aC (aA (ta (.i 0) (aB ?_)));obtain rfl := sIn h;refine bK (bE (bH (l := [2]) (ae rfl))) ?_;exact rt

theorem aEv (b : bB) {r : Int × Int} (h : oX b = some r) : Fn Tryz.prog 42 [.agg (aY b)] (.tup [.i r.1, .i r.2]) := by
 unfold oX at h;refine oT [.tmp 2, .tmp 3] func42 results42 ntmps42 ?_;refine aC (aA ?_);refine bG rfl (cV (v := .agg (aY b)) (aE rfl) rfl rfl rfl) ?_;rintro _ ⟨b1, rfl⟩;refine ta (.i 0) (ta (.i 0) (aB (aC (aC (aA (to (sla 0 (aY b) rfl rfl fK) ?_))))));obtain ⟨r2, h3, h⟩ := bns h;refine to (scr call41 (yP _ h3)) (ta (.i r2) (aB (aC (aA (tm (.i r2) (to (scm rfl rfl rfl) (aB ?_)))))));refine tih h (fun c4 h => ?_) (fun c4 h => ?_)
 ·refine aC (aA (tm (.i r2) (ta (.i 0) (ta (.i r2) (aB ?_)))));obtain rfl := sIn h;refine bK (bE (bH (l := [2, 3]) (ae rfl))) ?_;exact cD ⟨rfl, _, .two _ _, rfl, rfl⟩
 ·refine aU (aC (aA (tfl 0 rfl rfl iZ rfl cC (to (sf rfl jU) (tfl 0 rfl rfl iN rfl aQ ?_)))));obtain ⟨x5, h6, h⟩ := bns h;refine to (six rfl rfl bC.of (aW aF h6)) (to (slc rfl aQ) (ta (.i x5) (aB (aC (aC (aA (to (sf rfl jU) (tfl 0 rfl rfl iN rfl aQ (tm (.i 0) (aB (bD ?_)))))))))));refine bP (S := Int × Int) [1, 23] (fun s7 => [(5, .i s7.1), (24, .i s7.2)]) (fun s7 => [.box b1 0 (aY b)]) (fun k s7 => nG b.Tree.Rounds b k s7.1 s7.2) (fun _ => rfl) (x5, 0) h (aO [0] rfl rfl (aH rfl (aH rfl (aK (ae rfl))))) ?_;rintro k8 ⟨f, a⟩ h;simp only [nG] at h;refine aC (aA (to (scm rfl rfl rfl) (aB (aC ?_))));refine tih h (fun c9 h => ?_) (fun c9 h => ?_)
  ·refine aU (aC (bD (aC (aA (tm (.i a) (ta (.i a) (aB ?_)))))));obtain ⟨g, o, h⟩ := bns h;obtain ⟨w, p, h⟩ := bns h;refine cI mix 13 [1, 23, 24] [(27, .i f), (39, .i (w64 (g * 2 ^ (min (w64 ((Z49 b) - a)).toNat 64))))] ?_ ?_
   ·refine ⟨[(27, 0, .i f), (28, 1, .bp b1 0 3), (29, 2, .d (Z30 b)), (30, 3, .i a), (31, 4, .cp [.j g]), (32, 5, .i g), (33, 6, .bp b1 0 0), (34, 7, .bp b1 0 0), (35, 8, .i b.Tree.Rounds), (36, 9, .i (Z49 b)), (37, 10, .i a), (38, 11, .i (w64 ((Z49 b) - a))), (39, 12, .i (w64 (g * 2 ^ (min (w64 ((Z49 b) - a)).toNat 64))))], ?_, ?_⟩
    · exact dk [0, 0, 2, 0, 304, 5, 0, 7, 8, 9, 0, 1011, 612] ⟨go (zm (.i f)),
 go (zf rfl iZ),
 go (zl 0 rfl rfl rfl cC),
 go (zm (.i a)),
 go (zix rfl rfl bC.of (aW aF o)),
 go (zlc rfl aQ),
 go (zf rfl jU),
 go (zf rfl iN),
 go (zl 0 rfl rfl rfl aQ),
 go (zar rfl rfl rfl),
 go (zm (.i a)),
 go (zar rfl rfl rfl),
 go fun S hS => aTn (aE rfl) (aX hS rfl) (aX hS rfl) (aFs p), trivial⟩
    · exact bT (aH rfl (aH rfl (aK (ae rfl))))
   ·refine to (sar rfl rfl rfl) (ta (.i (w64 (f + (w64 (g * 2 ^ (min (w64 ((Z49 b) - a)).toNat 64)))))) ?_);refine cN ?_;refine aA (to (sar rfl rfl rfl) (tm (.i (w64 (a + 1))) (aB ?_)));exact ⟨(w64 (f + (w64 (g * 2 ^ (min (w64 ((Z49 b) - a)).toNat 64)))), w64 (a + 1)), h, aO [0] rfl rfl (aH rfl (aH rfl (aK (ae rfl))))⟩
  ·refine bO ?_;refine .inl ⟨rfl, ?_⟩;simp only [yQ] at h;refine aC (aC (aA (to (sf rfl jU) (tfl 0 rfl rfl dW rfl cC (to (sle rfl bC.of) (tm (.i 0) (aB (bD ?_))))))));refine bP (S := Int × Int) [1, 44, 45] (fun j => [(5, .i j.1), (46, .i j.2)]) (fun j => [.box b1 0 (aY b)]) (fun k j => nH b.Tree.Slots (b.Tree.Slots.length : Int) b k j.1 j.2) (fun _ => rfl) (f, 0) h (aO [0] rfl rfl (aH rfl (aH rfl (aK (ae rfl))))) ?_;rintro x ⟨c, e⟩ h;simp only [nH] at h;refine aC (aA (to (scm rfl rfl rfl) (aB (aC ?_))));refine tih h (fun q h => ?_) (fun q h => ?_)
   ·refine aU (aC (bD (aC (aA ?_))));obtain ⟨m, s, h⟩ := bns h;refine to (six rfl rfl bC.of (aW aF s)) (to (slc rfl aQ) (ta (.i m) (aB (aC (aA (tm (.i m) (to (scm rfl rfl rfl) (aB ?_))))))));refine tih h (fun t h => ?_) (fun t h => ?_)
    ·refine aA (tm (.i c) (tfl 0 rfl rfl iZ rfl cC ?_));obtain ⟨n, u, h⟩ := bns h;refine to (six rfl rfl bC.of (aW aF u)) (to (slc rfl aQ) (to (sar rfl rfl rfl) (ta (.i (w64 (c - n))) ?_)));refine cN ?_;refine aA (to (sar rfl rfl rfl) (tm (.i (w64 (e + 1))) (aB ?_)));exact ⟨(w64 (c - n), w64 (e + 1)), h, aO [0] rfl rfl (aH rfl (aH rfl (aK (ae rfl))))⟩
    ·refine cA ?_;refine aA (to (sar rfl rfl rfl) (tm (.i (w64 (e + 1))) (aB ?_)));exact ⟨(c, w64 (e + 1)), h, aO [0] rfl rfl (aH rfl (aH rfl (aK (ae rfl))))⟩
   ·refine bO ?_;refine .inl ⟨rfl, ?_⟩;simp only [aJp] at h;refine aC (aA (tm (.i c) (ta (.i c) (ta (.i 0) (aB ?_)))));obtain rfl := sIn h;refine bK (bE (bH (l := [2, 3]) (ae rfl))) ?_;exact cD ⟨rfl, _, .two _ _, rfl, rfl⟩

theorem tI {r : Bool} (h : iS = some r) : Fn Tryz.prog 37 [] (.b r) := by
 unfold iS at h;refine oT [.tmp 0] func37 results37 ntmps37 ?_;refine aC (aA (ta Z2 (aB (aC (aA ?_)))));obtain ⟨r1, h2, h⟩ := bns h;refine to (eO (aE rfl) (.func _ _ call47) rfl rfl (aHy h2)) ?_;refine tm (.tup [.agg (aT r1.1), .agg (aT r1.2)]) (to (sex rfl rfl) (to (sex rfl rfl) ?_));refine bG rfl (cJ (zs := [.j 0, .j 0, .sl 3 Z34, .sl 1 Z6]) (aE rfl) zeroValue25 rfl rfl) ?_;rintro _ ⟨b3, rfl⟩;refine bG rfl (cJ (zs := [.j 0, .j 0, .sl 3 Z34, .sl 1 Z6]) (aE rfl) zeroValue25 rfl rfl) ?_;rintro _ ⟨b4, rfl⟩;refine to (sst 0 rfl rfl sizeOf25 (aT r1.1)) (to (sst 1 rfl rfl sizeOf25 (aT r1.2)) (aB (aC (aA (to (sla 0 (aT r1.1) rfl rfl eT) ?_)))));obtain ⟨r5, h6, h⟩ := bns h;refine to (eO (aE rfl) (.func _ _ call38) rfl rfl (aEg _ _ h6)) ?_;refine tm (.tup [.d (.sl 1 (r5.1.map aF)), .i r5.2]) (to (sex rfl rfl) (to (sex rfl rfl) (ta (.d (.sl 1 (r5.1.map aF))) (ta (.i r5.2) (aB (aC (aA ?_)))))));obtain ⟨r7, h8, h⟩ := bns h;refine to (eO (aE rfl) (.func _ _ call94) rfl rfl (aHz h8)) ?_;obtain ⟨r9, A, h⟩ := bns h;refine to (scr call42 (aEv _ A)) (tm (.tup [.i r9.1, .i r9.2]) (to (sex rfl rfl) (to (sex rfl rfl) (ta (.i r9.1) (ta (.i r9.2) (aB (aC (aA (to (dE (aE rfl) bC rfl rfl (rows := Z59.map aF) rfl (bY (f := aF) fun _ => rfl) rfl (by decide)) ?_)))))))));refine to (cZ (aE rfl) aVv (zs := [.j 0, .sl 1 Z6]) rfl rfl rfl rfl (es := [.j 2, .sl 1 ((Z59).map aF)]) rfl) ?_;refine bG rfl (cJ (zs := [.j 0, .sl 1 Z6]) (aE rfl) zeroValue38 rfl rfl) ?_;rintro _ ⟨F, rfl⟩;refine to (sst 2 rfl rfl sizeOf38 (bI (aP.mk 2 Z59))) (aB (aC (aA (to (sla 2 (bI (aP.mk 2 Z59)) rfl rfl kD) ?_))));obtain ⟨e, B, h⟩ := bns h;refine to (sc call30 (aQy _ _ B) (.cons (.same _) (.cons (.d (.nil 5)) .nil))) (tm (.tup [.i e.1, .i e.2]) (to (sex rfl rfl) (to (sex rfl rfl) (ta (.i e.1) (ta (.i e.2) (aB (aC (aA (tm (.i r5.2) (to (scm rfl rfl rfl) (tm (.b (decide (r5.2 = 0))) ?_)))))))))));obtain ⟨u, o, h⟩ := bns h;refine aV 3 [3, 5, 8, 9] 36 u ?_ ?_
 ·refine bch o (fun g o => ?_) (fun g o => ?_)
  ·refine tk g (sm (.i r9.2)) (tk g (scm rfl rfl rfl) (to (spt (.b (decide (r9.2 = 0))) g) ?_));obtain rfl := sIn o;refine aB (aJ rfl (ae rfl) rfl)
  ·refine tp g (tp g (to (spf Z2 g) ?_));obtain rfl := sIn o;refine aB (aJ rfl (ae rfl) rfl)
 ·refine tm (.b u) ?_;obtain ⟨v, p, h⟩ := bns h;refine aV 3 [3, 5, 8] 40 v ?_ ?_
  ·refine bch p (fun j p => ?_) (fun j p => ?_)
   ·refine tk j (sm (.i e.2)) (tk j (scm rfl rfl rfl) (to (spt (.b (decide (e.2 = 0))) j) ?_));obtain rfl := sIn p;refine aB (aJ rfl (ae rfl) rfl)
   ·refine tp j (tp j (to (spf Z2 j) ?_));obtain rfl := sIn p;refine aB (aJ rfl (ae rfl) rfl)
  ·refine tm (.b v) ?_;obtain ⟨w, q, h⟩ := bns h;refine aV 4 [3, 5, 8] 45 w ?_ ?_
   ·refine bch q (fun c q => ?_) (fun c q => ?_)
    ·refine tk c (sm (.d (.sl 1 (r5.1.map aF)))) (tk c (sle rfl bC.of) (tk c (scm rfl rfl rfl) (to (spt (.b (decide ((r5.1.length : Int) = 4))) c) ?_)));obtain rfl := sIn q;refine aB (aJ rfl (ae rfl) rfl)
    ·refine tp c (tp c (tp c (to (spf Z2 c) ?_)));obtain rfl := sIn q;refine aB (aJ rfl (ae rfl) rfl)
   ·refine tm (.b w) ?_;obtain ⟨x, k, h⟩ := bns h;refine aV 5 [5, 8] 51 x ?_ ?_
    ·refine bch k (fun a k => ?_) (fun a k => ?_)
     ·refine tk a (sm (.d (.sl 1 (r5.1.map aF)))) ?_;obtain ⟨C, E, k⟩ := bns k;refine tk a (six rfl rfl bC.of (aW aF E)) (tk a (slc rfl aQ) (tk a (scm rfl rfl rfl) (to (spt (.b (decide (C = 30))) a) ?_)));obtain rfl := sIn k;refine aB (aJ rfl (ae rfl) rfl)
     ·refine tp a (tp a (tp a (tp a (to (spf Z2 a) ?_))));obtain rfl := sIn k;refine aB (aJ rfl (ae rfl) rfl)
    ·refine tm (.b x) ?_;obtain ⟨y, s, h⟩ := bns h;refine aV 3 [8] 55 y ?_ ?_
     ·refine bch s (fun m s => ?_) (fun m s => ?_)
      ·refine tk m (sm (.i r9.1)) (tk m (scm rfl rfl rfl) (to (spt (.b (decide (r9.1 = 1501))) m) ?_));obtain rfl := sIn s;refine aB (aJ rfl (ae rfl) rfl)
      ·refine tp m (tp m (to (spf Z2 m) ?_));obtain rfl := sIn s;refine aB (aJ rfl (ae rfl) rfl)
     ·refine tm (.b y) ?_;obtain ⟨z, t, h⟩ := bns h;refine aV 3 [] 59 z ?_ ?_
      ·refine bch t (fun n t => ?_) (fun n t => ?_)
       ·refine tk n (sm (.i e.1)) (tk n (scm rfl rfl rfl) (to (spt (.b (decide (e.1 = 3))) n) ?_));obtain rfl := sIn t;refine aB (aJ rfl trivial rfl)
       ·refine tp n (tp n (to (spf Z2 n) ?_));obtain rfl := sIn t;refine aB (aJ rfl trivial rfl)
      ·refine ta (.b z) (aB ?_);obtain rfl := sIn h;refine bK (bE (bH (l := [0]) (ae rfl))) ?_;exact rt

theorem aEe (s : bA) (b : List Int) (c : List Int) {r : bB} (h : oF s b c = some r) : Fn Tryz.prog 39 [.agg (aT s), .d (Z8 b), .d (Z8 c)] (.agg (aY r)) := by
 unfold oF at h;refine kR func39 rfl (rs := [.cell 6 113]) results39 ntmps39 (Nat.le_of_ble_eq_true rfl) ?_;refine aC (aA ?_);refine bG rfl (cV (v := .agg (aT s)) (aE rfl) rfl rfl rfl) ?_;rintro _ ⟨b1, rfl⟩;refine bG rfl (cJ (zs := [.j 0, .sl 1 Z6, .sl 5 Z22, .sl 1 Z6, .j 0, .sl 3 Z47, .sl 2 Z23, .sl 3 Z24, .sl 4 Z25]) (aE rfl) zeroValue113 rfl rfl) ?_;rintro _ ⟨b2, rfl⟩;refine aB (aC (aA (tfl 0 rfl rfl dD rfl aQ ?_)));obtain ⟨r3, h4, h⟩ := bns h;refine to (scr call13 (aGi _ h4)) (tm (Z40 b) (to (cZ (aE rfl) aVv (zs := [.j 0, .sl 1 Z6]) rfl rfl rfl rfl (es := [.j r3, .sl 1 (b.map aF)]) rfl) ?_));refine tm (Z40 c) (to (cZ (aE rfl) aYd (zs := [.j 0, .sl 1 Z6, .sl 5 Z22, .sl 1 Z6, .j 0, .lit (.slice none 0 0), .sl 2 Z23, .sl 3 Z24, .sl 4 Z25]) rfl rfl rfl rfl (es := [.j r3, .sl 1 (b.map aF), .sl 5 Z22, .sl 1 (c.map aF), .j 0, .lit (.slice none 0 0), .sl 2 Z23, .sl 3 Z24, .sl 4 Z25]) rfl) ?_);refine bG rfl (cJ (zs := [.j 0, .sl 1 Z6, .sl 5 Z22, .sl 1 Z6, .j 0, .lit (.slice none 0 0), .sl 2 Z23, .sl 3 Z24, .sl 4 Z25]) (aE rfl) zeroValue113 rfl rfl) ?_;rintro _ ⟨b5, rfl⟩;refine gY (aIf 184 3) ?_;refine to (sst 2 rfl rfl sizeOf113 [.j r3, .sl 1 (b.map aF), .sl 5 Z22, .sl 1 (c.map aF), .j 0, .lit (.slice none 0 0), .sl 2 Z23, .sl 3 Z24, .sl 4 Z25]) (aB (aC (aC (aA (ta (.i 0) (aB (bD ?_)))))));refine bP (S := Int × (List bR) × aP × (List aG) × Z32 × Int × (List dH) × (List cS) × Z66 × Value) [3, 6, 7] (fun s6 => [(8, .i s6.1)]) (fun s6 => [.box b1 0 (aT s), .box b2 0 (aY Z4), .arr s6.2.2.2.2.2.2.2.2.2 184 3 (s6.2.1.map bQ), .box b5 0 [.j s6.2.2.1.Rounds, .sl 1 (s6.2.2.1.Slots.map aF), .sl 5 (s6.2.2.2.1.map aM), .sl 1 (s6.2.2.2.2.1.map aF), .j s6.2.2.2.2.2.1, .lit s6.2.2.2.2.2.2.2.2.2, .sl 2 (s6.2.2.2.2.2.2.1.map cM), .sl 3 (s6.2.2.2.2.2.2.2.1.map cP), .sl 4 (s6.2.2.2.2.2.2.2.2.1.map aI)]]) (fun k s6 => kY s Z4 k s6.1 s6.2.1 s6.2.2.1 s6.2.2.2.1 s6.2.2.2.2.1 s6.2.2.2.2.2.1 s6.2.2.2.2.2.2.1 s6.2.2.2.2.2.2.2.1 s6.2.2.2.2.2.2.2.2.1) (fun _ => rfl) (0, ([] : List bR), (aP.mk r3 b), ([] : List aG), c, 0, ([] : List dH), ([] : List cS), ([] : List aN), (.slice none 0 0)) h (aO [0, 1, 3, 2] rfl rfl (aH rfl (aK (ae rfl)))) ?_;rintro k8 ⟨o, t, a, e, g, j, l, m, n, w7⟩ h;simp only [kY] at h;refine aC (aC (aA (tm (.i o) (tfl 0 rfl rfl dN rfl fC (to (sle rfl fN.of) (to (scm rfl rfl rfl) (aB ?_)))))));refine tih h (fun c9 h => ?_) (fun c9 h => ?_)
 ·refine aU (aC (bD ?_));obtain ⟨p, w, h⟩ := bns h;obtain ⟨q, x, h⟩ := bns h;refine cI mix 16 [3, 6, 7, 8] [(24, .d (.lit w7)), (38, .d (.sl 3 ((([(bR.mk p.Player q.Player (-1))])).map bQ)))] ?_ ?_
  ·refine ⟨[(23, 0, .bp b5 0 5), (24, 1, .d (.lit w7)), (25, 2, .bp b1 0 2), (26, 3, .d (Z54 s)), (27, 4, .i o), (28, 5, .cp [.j p.Player, .j p.Nation, .k p.Qualified]), (29, 6, .cp [.j p.Player]), (30, 7, .i p.Player), (31, 8, .bp b1 0 2), (32, 9, .d (Z54 s)), (33, 10, .i o), (34, 11, .cp [.j q.Player, .j q.Nation, .k q.Qualified]), (35, 12, .cp [.j q.Player]), (36, 13, .i q.Player), (37, 14, .agg (bQ (bR.mk p.Player q.Player (-1)))), (38, 15, .d (.sl 3 ((([(bR.mk p.Player q.Player (-1))])).map bQ)))], ?_, ?_⟩
   · exact dk [0, 1, 0, 3, 0, 405, 6, 7, 0, 9, 0, 1011, 12, 13, 814, 15] ⟨go (zf rfl iD),
 go (zl 3 rfl rfl rfl mD),
 go (zf rfl dN),
 go (zl 0 rfl rfl rfl fC),
 go (zm (.i o)),
 go (zix rfl rfl fN.of (aW aR w)),
 go (zfc [.j p.Player] rfl kZ),
 go (zlc rfl aQ),
 go (zf rfl dN),
 go (zl 0 rfl rfl rfl fC),
 go (zm (.i o)),
 go (zix rfl rfl fN.of (aW aR x)),
 go (zfc [.j q.Player] rfl kZ),
 go (zlc rfl aQ),
 go fun S hS => cZ (aE rfl) aDz (zs := [.j 0, .j 0, .j 0]) rfl rfl rfl (pa2 (aX hS rfl) (pa2 (aX hS rfl) (pa2 rfl pan))) (es := [.j p.Player, .j q.Player, .j (-1)]) rfl,
 go fun S hS => dE (aE rfl) kV rfl (pa2 (aX hS rfl) pan) (rows := ([(bR.mk p.Player q.Player (-1))]).map bQ) rfl (bY (f := bQ) fun _ => rfl) rfl (by decide), trivial⟩
   · exact bT (aH rfl (aH rfl (aK (ae rfl))))
  ·obtain ⟨y, z, h⟩ := bns h;refine bG rfl (dL (i := 2) (aE rfl) kV rfl rfl rfl (fun _ => rfl) z rfl) ?_;rintro _ ⟨u, rfl⟩;refine to (sf rfl iD) (to (sst 3 rfl rfl sizeOf108 [.j a.Rounds, .sl 1 (a.Slots.map aF), .sl 5 (e.map aM), .sl 1 (g.map aF), .j j, .lit u, .sl 2 (l.map cM), .sl 3 (m.map cP), .sl 4 (n.map aI)]) ?_);refine cN ?_;refine aA (tm (.i o) (to (sar rfl rfl rfl) (ta (.i (w64 (o + 1))) (aB ?_))));exact ⟨(w64 (o + 1), y, a, e, g, j, l, m, n, u), h, aO [0, 1, 2, 3] rfl rfl (aH rfl (aK (ae rfl)))⟩
 ·refine bO ?_;refine .inl ⟨rfl, ?_⟩;simp only [xV] at h;refine aC (aA (to (sla 3 [.j a.Rounds, .sl 1 (a.Slots.map aF), .sl 5 (e.map aM), .sl 1 (g.map aF), .j j, .lit w7, .sl 2 (l.map cM), .sl 3 (m.map cP), .sl 4 (n.map aI)] rfl rfl fK) (to (sst 1 rfl rfl sizeOf113 [.j a.Rounds, .sl 1 (a.Slots.map aF), .sl 5 (e.map aM), .sl 1 (g.map aF), .j j, .lit w7, .sl 2 (l.map cM), .sl 3 (m.map cP), .sl 4 (n.map aI)]) (aB ?_))));obtain rfl := sIn h;exact cD ⟨rfl, _, [.box b1 0 (aT s), .box b2 0 [.j a.Rounds, .sl 1 (a.Slots.map aF), .sl 5 (e.map aM), .sl 1 (g.map aF), .j j, .lit w7, .sl 2 (l.map cM), .sl 3 (m.map cP), .sl 4 (n.map aI)], .arr w7 184 3 (t.map bQ), .box b5 0 [.j a.Rounds, .sl 1 (a.Slots.map aF), .sl 5 (e.map aM), .sl 1 (g.map aF), .j j, .lit w7, .sl 2 (l.map cM), .sl 3 (m.map cP), .sl 4 (n.map aI)]], .one (.cell 6 113 rfl (i := 1) rfl fK (es := [.j a.Rounds, .sl 1 (a.Slots.map aF), .sl 5 (e.map aM), .sl 1 (g.map aF), .j j, .lit w7, .sl 2 (l.map cM), .sl 3 (m.map cP), .sl 4 (n.map aI)]) rfl rfl), .refl _, .agg (dvc (.same _) (dvc (.same _) (dvc (.same _) (dvc (.same _) (dvc (.same _) (dvc (gZ 2 rfl (bY (f := bQ) fun _ => rfl)) (dvc (.same _) (dvc (.same _) (dvc (.same _) dvn)))))))))⟩

theorem dR (d : Int) (c : Int) (a : Int) {r : Bool} (h : dM d c a = some r) : Fn Tryz.prog 96 [.i d, .i c, .i a] (.b r) := by
 unfold dM at h;refine oT [.tmp 6] func96 results96 ntmps96 ?_;refine aC (aA (ta Z2 (aB (aC (aA (tm (.i d) (tm (.i c) (to (scm rfl rfl rfl) (tm (Z35 c d) ?_)))))))));obtain ⟨b1, h2, h⟩ := bns h;refine aV 4 [] 14 b1 ?_ ?_
 ·refine bch h2 (fun c3 h2 => ?_) (fun c3 h2 => ?_)
  ·refine tk c3 (sm (.i d)) (tk c3 (sm (.i a)) (tk c3 (scm rfl rfl rfl) (to (spt (Z35 d a) c3) ?_)));obtain rfl := sIn h2;refine aB (aJ rfl trivial rfl)
  ·refine tp c3 (tp c3 (tp c3 (to (spf Z2 c3) ?_)));obtain rfl := sIn h2;refine aB (aJ rfl trivial rfl)
 ·refine ta (.b b1) (aB ?_);obtain rfl := sIn h;exact rt

theorem zX (d : bB) (a : Int) {r : Bool} (h : mA d a = some r) : Fn Tryz.prog 151 [.agg (aY d), .i a] (.b r) := by
 unfold mA at h;refine oT [.tmp 4] func151 results151 ntmps151 ?_;refine aC (aA ?_);refine bG rfl (cV (v := .agg (aY d)) (aE rfl) rfl rfl rfl) ?_;rintro _ ⟨b1, rfl⟩;refine ta Z2 (aB (aC (aC (aA (ta (.i 0) (aB (bD ?_)))))));refine bP (S := Int) [1, 2] (fun s2 => [(5, .i s2)]) (fun s2 => [.box b1 0 (aY d)]) (fun k s2 => iM a d k s2) (fun _ => rfl) (0) h (aO [0] rfl rfl (aH rfl (aK (ae rfl)))) ?_;rintro k3 c h;simp only [iM] at h;refine aC (aC (aA (tm (.i c) (tfl 0 rfl rfl iD rfl mD (to (sle rfl kV.of) (to (scm rfl rfl rfl) (aB ?_)))))));refine tih h (fun c4 h => ?_) (fun c4 h => ?_)
 ·refine aU (aC (bD (aC (aA (tfl 0 rfl rfl iD rfl mD (tm (.i c) ?_))))));obtain ⟨x5, h6, h⟩ := bns h;refine to (six rfl rfl kV.of (aW bQ h6)) (to (sfc [.j x5.Player] rfl wW) (to (slc rfl aQ) (tm (.i a) (to (scm rfl rfl rfl) (aB ?_)))));refine tih h (fun c7 h => ?_) (fun c7 h => ?_)
  ·refine aC (aA (ta Z14 (aB ?_)));obtain rfl := sIn h;refine bK (bE (bH (l := [4]) (ae rfl))) ?_;exact rt
  ·refine cA ?_;refine aA (tm (.i c) (to (sar rfl rfl rfl) (ta (.i (w64 (c + 1))) (aB ?_))));exact ⟨(w64 (c + 1)), h, aO [0] rfl rfl (aH rfl (aK (ae rfl)))⟩
 ·refine bO ?_;refine .inl ⟨rfl, ?_⟩;simp only [zI] at h;refine aC (aA (ta Z2 (aB ?_)));obtain rfl := sIn h;refine bK (bE (bH (l := [4]) (ae rfl))) ?_;exact rt

theorem aGw (a : bB) {r : Bool} (h : lG a = some r) : Fn Tryz.prog 97 [.agg (aY a)] (.b r) := by
 unfold lG at h;refine oT [.tmp 2] func97 results97 ntmps97 ?_;refine aC (aA ?_);refine bG rfl (cV (v := .agg (aY a)) (aE rfl) rfl rfl rfl) ?_;rintro _ ⟨b1, rfl⟩;refine ta Z2 (aB (aC (aC (aA (ta (.i 0) (aB (bD ?_)))))));refine bP (S := Int) [1] (fun s2 => [(3, .i s2)]) (fun s2 => [.box b1 0 (aY a)]) (fun k s2 => fI a k s2) (fun _ => rfl) (0) h (aO [0] rfl rfl (aH rfl (aK (ae rfl)))) ?_;rintro k3 o h;simp only [fI] at h;refine aC (aC (aA (tm (.i o) (tfl 0 rfl rfl iD rfl mD (to (sle rfl kV.of) (to (scm rfl rfl rfl) (aB ?_)))))));refine tih h (fun c4 h => ?_) (fun c4 h => ?_)
 ·refine aU (aC (bD (aC (aA (tfl 0 rfl rfl iD rfl mD (tm (.i o) ?_))))));obtain ⟨x5, h6, h⟩ := bns h;refine to (six rfl rfl kV.of (aW bQ h6)) (to (tG (bQ x5) rfl xL) ?_);refine bG rfl (cJ (zs := [.j 0, .j 0, .j 0]) (aE rfl) zeroValue184 rfl rfl) ?_;rintro _ ⟨b7, rfl⟩;refine to (sst 1 rfl rfl sizeOf184 (bQ x5)) (aB (aC (aC (aA (tfl 1 rfl rfl wW rfl aQ ?_)))));obtain ⟨r8, h9, h⟩ := bns h;refine to (scr call96 (dR _ _ _ h9)) (to (sn rfl) (tm (.b (!r8)) ?_));obtain ⟨T, C, h⟩ := bns h;refine aV 5 [1, 3, 4] 30 T ?_ ?_
  ·refine bch C (fun w C => ?_) (fun w C => ?_)
   ·refine tp w (tp w (tp w (tp w (to (spt Z14 w) ?_))));obtain rfl := sIn C;refine aB (aJ rfl (ae rfl) rfl)
   ·refine tkl 1 w rfl rfl pI rfl aQ ?_;obtain ⟨a2, a3, C⟩ := bns C;refine tk w (scr call96 (dR _ _ _ a3)) (tk w (sn rfl) (to (spf (.b (!a2)) w) ?_));obtain rfl := sIn C;refine aB (aJ rfl (ae rfl) rfl)
  ·refine tm (.b T) ?_;obtain ⟨U, E, h⟩ := bns h;refine aV 5 [1, 3, 4] 36 U ?_ ?_
   ·refine bch E (fun x E => ?_) (fun x E => ?_)
    ·refine tp x (tp x (tp x (tp x (to (spt Z14 x) ?_))));obtain rfl := sIn E;refine aB (aJ rfl (ae rfl) rfl)
    ·refine tkl 1 x rfl rfl kM rfl aQ ?_;obtain ⟨a4, a5, E⟩ := bns E;refine tk x (scr call96 (dR _ _ _ a5)) (tk x (sn rfl) (to (spf (.b (!a4)) x) ?_));obtain rfl := sIn E;refine aB (aJ rfl (ae rfl) rfl)
   ·refine tm (.b U) ?_;obtain ⟨a6, I, h⟩ := bns h;refine aV 6 [1, 3, 4] 43 a6 ?_ ?_
    ·refine bch I (fun p I => ?_) (fun p I => ?_)
     ·refine tp p (tp p (tp p (tp p (tp p (to (spt Z14 p) ?_)))));obtain rfl := sIn I;refine aB (aJ rfl (ae rfl) rfl)
     ·refine tkl 1 p rfl rfl pI rfl aQ (tkl 1 p rfl rfl kM rfl aQ (tk p (scm rfl rfl rfl) (to (spf (.b (decide (x5.One = x5.Two))) p) ?_)));obtain rfl := sIn I;refine aB (aJ rfl (ae rfl) rfl)
    ·refine aB ?_;refine tih h (fun a7 h => ?_) (fun a7 h => ?_)
     ·refine aC (aA (ta Z2 (aB ?_)));obtain rfl := sIn h;refine bK (bE (bH (l := [2]) (ae rfl))) ?_;exact rt
     ·refine aU (aC (aA (ta (.i 0) (aB ?_))));refine vQ ?_;refine bP (S := Int) [1, 3, 4] (fun M => [(5, .i M)]) (fun M => [.box b1 0 (aY a), .box b7 0 (bQ x5)]) (fun k M => fJ (fI a k3) o a x5 k M) (fun _ => rfl) (0) h (aO [0, 1] rfl rfl (aH rfl (aK (ae rfl)))) ?_;rintro c5 q h;simp only [fJ] at h;refine aC (aC (aA (tm (.i q) (tm (.i o) (to (scm rfl rfl rfl) (aB ?_))))));refine tih h (fun a8 h => ?_) (fun a8 h => ?_)
      ·refine aU (aC (bD (aC (aA (tfl 0 rfl rfl iD rfl mD (tm (.i q) ?_))))));obtain ⟨F, a9, h⟩ := bns h;refine to (six rfl rfl kV.of (aW bQ a9)) (to (tG (bQ F) rfl xL) ?_);refine bG rfl (cJ (zs := [.j 0, .j 0, .j 0]) (aE rfl) zeroValue184 rfl rfl) ?_;rintro _ ⟨c6, rfl⟩;refine to (sst 2 rfl rfl sizeOf184 (bQ F)) (aB (aC (aA (tfl 2 rfl rfl wW rfl aQ (tfl 1 rfl rfl wW rfl aQ (to (scm rfl rfl rfl) (tm (.b (decide (F.Player = x5.Player))) ?_)))))));obtain ⟨V, J, h⟩ := bns h;refine aV 6 [1, 3, 4, 5, 6] 65 V ?_ ?_
       ·refine bch J (fun s J => ?_) (fun s J => ?_)
        ·refine tp s (tp s (tp s (tp s (tp s (to (spt Z14 s) ?_)))));obtain rfl := sIn J;refine aB (aJ rfl (ae rfl) rfl)
        ·refine tkl 2 s rfl rfl pI rfl aQ (tkl 1 s rfl rfl pI rfl aQ (tk s (scm rfl rfl rfl) (to (spf (.b (decide (F.One = x5.One))) s) ?_)));obtain rfl := sIn J;refine aB (aJ rfl (ae rfl) rfl)
       ·refine tm (.b V) ?_;obtain ⟨W, K, h⟩ := bns h;refine aV 6 [1, 3, 4, 5, 6] 72 W ?_ ?_
        ·refine bch K (fun t K => ?_) (fun t K => ?_)
         ·refine tp t (tp t (tp t (tp t (tp t (to (spt Z14 t) ?_)))));obtain rfl := sIn K;refine aB (aJ rfl (ae rfl) rfl)
         ·refine tkl 2 t rfl rfl kM rfl aQ (tkl 1 t rfl rfl pI rfl aQ (tk t (scm rfl rfl rfl) (to (spf (.b (decide (F.Two = x5.One))) t) ?_)));obtain rfl := sIn K;refine aB (aJ rfl (ae rfl) rfl)
        ·refine tm (.b W) ?_;obtain ⟨b0, G, h⟩ := bns h;refine aV 18 [1, 3, 4, 5] 91 b0 ?_ ?_
         ·refine bch G (fun n G => ?_) (fun n G => ?_)
          ·refine tp n (tp n (tp n (tp n (tq (tq (tq (tq (tq (tq (tq (tq (tq (tq ?_)))))))))))));refine tq (tq (tp n (to (spt Z14 n) ?_)));obtain rfl := sIn G;refine aB (aJ rfl (ae rfl) rfl)
          ·refine tkl 1 n rfl rfl kM rfl aQ (tk n (scm rfl rfl rfl) (tk n (sm (.b (decide (0 ≤ x5.Two)))) ?_));obtain ⟨X, H, G⟩ := bns G;refine aV 13 [1, 3, 4, 5, 73, 74, 75, 76, 77] 90 X ?_ ?_
           ·refine bch H (fun m H => ?_) (fun m H => ?_)
            ·refine tkl 2 m rfl rfl pI rfl aQ (tkl 1 m rfl rfl kM rfl aQ (tk m (scm rfl rfl rfl) (tk m (sm (.b (decide (F.One = x5.Two)))) ?_)));obtain ⟨Y, L, H⟩ := bns H;refine aV 6 [1, 3, 4, 5, 73, 74, 75, 76, 77, 78, 79, 80, 81, 82, 83] 89 Y ?_ ?_
             ·refine bch L (fun u L => ?_) (fun u L => ?_)
              ·refine tp u (tp u (tp u (tp u (tp u (tk m (spt Z14 u) ?_)))));obtain rfl := sIn L;refine aB (aJ rfl (ae rfl) rfl)
              ·refine tkl 2 u rfl rfl kM rfl aQ (tkl 1 u rfl rfl kM rfl aQ (tk u (scm rfl rfl rfl) (tk m (spf (.b (decide (F.Two = x5.Two))) u) ?_)));obtain rfl := sIn L;refine aB (aJ rfl (ae rfl) rfl)
             ·refine tk n (spt (.b Y) m) ?_;obtain rfl := sIn H;refine aB (aJ rfl (ae rfl) rfl)
            ·refine tp m (tp m (tp m (tp m (tp m (tp m (tq (tq (tq (tq (tq (tp m (tk n (spf Z2 m) ?_))))))))))));obtain rfl := sIn H;refine aB (aJ rfl (ae rfl) rfl)
           ·refine to (spf (.b X) n) ?_;obtain rfl := sIn G;refine aB (aJ rfl (ae rfl) rfl)
         ·refine aB ?_;refine tih h (fun b2 h => ?_) (fun b2 h => ?_)
          ·refine aC (aA (ta Z2 (aB ?_)));obtain rfl := sIn h;refine bK (bE (bH (l := [2]) (ae rfl))) ?_;exact rt
          ·refine cA ?_;refine aA (tm (.i q) (to (sar rfl rfl rfl) (ta (.i (w64 (q + 1))) (aB ?_))));exact ⟨(w64 (q + 1)), h, aO [0, 1] rfl rfl (aH rfl (aK (ae rfl)))⟩
      ·refine bO ?_;refine .inl ⟨rfl, ?_⟩;simp only [tA] at h;simp only [sZ] at h;refine aA (tm (.i o) (to (sar rfl rfl rfl) (ta (.i (w64 (o + 1))) (aB ?_))));exact ⟨(w64 (o + 1)), h, aO [0] rfl rfl (aH rfl (aK (ae rfl)))⟩
 ·refine bO ?_;refine .inl ⟨rfl, ?_⟩;simp only [lI] at h;refine aC (aC (aA (ta (.i 0) (aB (bD ?_)))));refine bP (S := Int) [1] (fun N => [(7, .i N)]) (fun N => [.box b1 0 (aY a)]) (fun k N => gQ a k N) (fun _ => rfl) (0) h (aO [0] rfl rfl (aH rfl (aK (ae rfl)))) ?_;rintro c7 e h;simp only [gQ] at h;refine aC (aC (aA (tm (.i e) (to (sf rfl jU) (tfl 0 rfl rfl dW rfl cC (to (sle rfl bC.of) (to (scm rfl rfl rfl) (aB ?_))))))));refine tih h (fun b3 h => ?_) (fun b3 h => ?_)
  ·refine aU (aC (bD (aC ?_)));obtain ⟨y, Z, h⟩ := bns h;obtain ⟨b4, z, h⟩ := bns h;refine cI mix 18 [1, 7] [(117, .b b4)] ?_ ?_
   ·refine bch z (fun f z => ?_) (fun f z => ?_)
    ·obtain ⟨a0, b5, z⟩ := bns z;obtain ⟨O, b6, z⟩ := bns z;obtain rfl := sIn z;refine ⟨[(100, 0, .bp b1 0 0), (101, 1, .bp b1 0 1), (102, 2, .d (.sl 1 (a.Tree.Slots.map aF))), (103, 3, .i e), (104, 4, .cp [.j y]), (105, 5, .i y), (106, 6, .b (!decide (y = (-1)))), (107, 7, .b (!decide (y = (-1)))), (108, 8, .agg (aY a)), (109, 9, .bp b1 0 0), (110, 10, .bp b1 0 1), (111, 11, .d (.sl 1 (a.Tree.Slots.map aF))), (112, 12, .i e), (113, 13, .cp [.j a0]), (114, 14, .i a0), (115, 15, .b O), (116, 16, .b (!O)), (117, 17, .b (!O))], ?_, ?_⟩
     · exact dk [0, 1, 2, 0, 304, 5, 6, 7, 8, 8, 810, 811, 8, 81213, 814, 80915, 816, 817] ⟨go (zf rfl jU),
 go (zf rfl dW),
 go (zl 0 rfl rfl rfl cC),
 go (zm (.i e)),
 go (zix rfl rfl bC.of (aW aF Z)),
 go (zlc rfl aQ),
 go (zcm rfl rfl rfl),
 go (zm (.b (!decide (y = (-1))))),
 gt f (zla 0 (aY a) rfl rfl fK),
 gt f (zf rfl jU),
 gt f (zf rfl dW),
 gt f (zl 0 rfl rfl rfl cC),
 gt f (zm (.i e)),
 gt f (zix rfl rfl bC.of (aW aF b5)),
 gt f (zlc rfl aQ),
 gt f fun S hS => cT (aE rfl) (.func _ _ call151) (ev2 (aX hS rfl) (ev2 (aX hS rfl) evn)) rfl (BVs.refl _ _) (zX _ _ b6) rfl,
 gt f (zn rfl),
 go (zpt (.b (!O)) f), trivial⟩
     · exact bT (aH rfl (aK (ae rfl)))
    ·obtain rfl := sIn z;refine ⟨[(100, 0, .bp b1 0 0), (101, 1, .bp b1 0 1), (102, 2, .d (.sl 1 (a.Tree.Slots.map aF))), (103, 3, .i e), (104, 4, .cp [.j y]), (105, 5, .i y), (106, 6, .b (!decide (y = (-1)))), (107, 7, .b (!decide (y = (-1)))), (108, 8, .tup []), (109, 9, .tup []), (110, 10, .tup []), (111, 11, .tup []), (112, 12, .tup []), (113, 13, .tup []), (114, 14, .tup []), (115, 15, .tup []), (116, 16, .tup []), (117, 17, .b false)], ?_, ?_⟩
     · exact dk [0, 1, 2, 0, 304, 5, 6, 7, 8, 8, 810, 811, 8, 81213, 814, 80915, 816, 817] ⟨go (zf rfl jU),
 go (zf rfl dW),
 go (zl 0 rfl rfl rfl cC),
 go (zm (.i e)),
 go (zix rfl rfl bC.of (aW aF Z)),
 go (zlc rfl aQ),
 go (zcm rfl rfl rfl),
 go (zm (.b (!decide (y = (-1))))),
 gp f,
 gp f,
 gp f,
 gp f,
 gp f,
 gp f,
 gp f,
 gp f,
 gp f,
 go (zpf Z2 f), trivial⟩
     · exact bT (aH rfl (aK (ae rfl)))
   ·refine aB ?_;refine tih h (fun b8 h => ?_) (fun b8 h => ?_)
    ·refine aC (aA (ta Z2 (aB ?_)));obtain rfl := sIn h;refine bK (bE (bH (l := [2]) (ae rfl))) ?_;exact rt
    ·refine cA ?_;refine aA (tm (.i e) (to (sar rfl rfl rfl) (ta (.i (w64 (e + 1))) (aB ?_))));exact ⟨(w64 (e + 1)), h, aO [0] rfl rfl (aH rfl (aK (ae rfl)))⟩
  ·refine bO ?_;refine .inl ⟨rfl, ?_⟩;simp only [oV] at h;refine aC (aC (aA (ta (.i 0) (aB (bD ?_)))));refine bP (S := Int) [1] (fun P => [(8, .i P)]) (fun P => [.box b1 0 (aY a)]) (fun k P => jP a k P) (fun _ => rfl) (0) h (aO [0] rfl rfl (aH rfl (aK (ae rfl)))) ?_;rintro c8 g h;simp only [jP] at h;refine aC (aC (aA (tm (.i g) (tfl 0 rfl rfl uI rfl aCg (to (sle rfl iT.of) (to (scm rfl rfl rfl) (aB ?_)))))));refine tih h (fun b9 h => ?_) (fun b9 h => ?_)
   ·refine aU (aC (bD (aC ?_)));obtain ⟨c, a1, h⟩ := bns h;obtain ⟨c0, A, h⟩ := bns h;refine cI mix 18 [1, 8] [(142, .b c0)] ?_ ?_
    ·refine bch A (fun j A => ?_) (fun j A => ?_)
     ·obtain ⟨B, c1, A⟩ := bns A;obtain ⟨Q, c2, A⟩ := bns A;obtain rfl := sIn A;refine ⟨[(125, 0, .bp b1 0 2), (126, 1, .d (.sl 5 (a.Slips.map aM))), (127, 2, .i g), (128, 3, .cp [.j c.Kind, .j c.Round, .j c.Place, .j c.Player, .j c.Old]), (129, 4, .cp [.j c.Kind]), (130, 5, .i c.Kind), (131, 6, .b (decide (c.Kind = 5))), (132, 7, .b (decide (c.Kind = 5))), (133, 8, .agg (aY a)), (134, 9, .bp b1 0 2), (135, 10, .d (.sl 5 (a.Slips.map aM))), (136, 11, .i g), (137, 12, .cp [.j B.Kind, .j B.Round, .j B.Place, .j B.Player, .j B.Old]), (138, 13, .cp [.j B.Player]), (139, 14, .i B.Player), (140, 15, .b Q), (141, 16, .b (!Q)), (142, 17, .b (!Q))], ?_, ?_⟩
      · exact dk [0, 1, 0, 203, 4, 5, 6, 7, 8, 8, 810, 8, 81112, 813, 814, 80915, 816, 817] ⟨go (zf rfl uI),
 go (zl 0 rfl rfl rfl aCg),
 go (zm (.i g)),
 go (zix rfl rfl iT.of (aW aM a1)),
 go (zfc [.j c.Kind] rfl qC),
 go (zlc rfl aQ),
 go (zcm rfl rfl rfl),
 go (zm (.b (decide (c.Kind = 5)))),
 gt j (zla 0 (aY a) rfl rfl fK),
 gt j (zf rfl uI),
 gt j (zl 0 rfl rfl rfl aCg),
 gt j (zm (.i g)),
 gt j (zix rfl rfl iT.of (aW aM c1)),
 gt j (zfc [.j B.Player] rfl qD),
 gt j (zlc rfl aQ),
 gt j fun S hS => cT (aE rfl) (.func _ _ call151) (ev2 (aX hS rfl) (ev2 (aX hS rfl) evn)) rfl (BVs.refl _ _) (zX _ _ c2) rfl,
 gt j (zn rfl),
 go (zpt (.b (!Q)) j), trivial⟩
      · exact bT (aH rfl (aK (ae rfl)))
     ·obtain rfl := sIn A;refine ⟨[(125, 0, .bp b1 0 2), (126, 1, .d (.sl 5 (a.Slips.map aM))), (127, 2, .i g), (128, 3, .cp [.j c.Kind, .j c.Round, .j c.Place, .j c.Player, .j c.Old]), (129, 4, .cp [.j c.Kind]), (130, 5, .i c.Kind), (131, 6, .b (decide (c.Kind = 5))), (132, 7, .b (decide (c.Kind = 5))), (133, 8, .tup []), (134, 9, .tup []), (135, 10, .tup []), (136, 11, .tup []), (137, 12, .tup []), (138, 13, .tup []), (139, 14, .tup []), (140, 15, .tup []), (141, 16, .tup []), (142, 17, .b false)], ?_, ?_⟩
      · exact dk [0, 1, 0, 203, 4, 5, 6, 7, 8, 8, 810, 8, 81112, 813, 814, 80915, 816, 817] ⟨go (zf rfl uI),
 go (zl 0 rfl rfl rfl aCg),
 go (zm (.i g)),
 go (zix rfl rfl iT.of (aW aM a1)),
 go (zfc [.j c.Kind] rfl qC),
 go (zlc rfl aQ),
 go (zcm rfl rfl rfl),
 go (zm (.b (decide (c.Kind = 5)))),
 gp j,
 gp j,
 gp j,
 gp j,
 gp j,
 gp j,
 gp j,
 gp j,
 gp j,
 go (zpf Z2 j), trivial⟩
      · exact bT (aH rfl (aK (ae rfl)))
    ·refine aB ?_;refine tih h (fun c3 h => ?_) (fun c3 h => ?_)
     ·refine aC (aA (ta Z2 (aB ?_)));obtain rfl := sIn h;refine bK (bE (bH (l := [2]) (ae rfl))) ?_;exact rt
     ·refine cA ?_;refine aA (tm (.i g) (to (sar rfl rfl rfl) (ta (.i (w64 (g + 1))) (aB ?_))));exact ⟨(w64 (g + 1)), h, aO [0] rfl rfl (aH rfl (aK (ae rfl)))⟩
   ·refine bO ?_;refine .inl ⟨rfl, ?_⟩;simp only [tB] at h;refine aC (aA (tfl 0 rfl rfl iD rfl mD (to (sle rfl kV.of) (to (scm rfl rfl rfl) (ta (.b (decide ((a.Teams.length : Int) ≤ 64))) (aB ?_))))));obtain rfl := sIn h;refine bK (bE (bH (l := [2]) (ae rfl))) ?_;exact rt

theorem aMy (f : bB) (a : Int) {r : bR × Bool × Bool} (h : zW f a = some r) : Fn Tryz.prog 200 [.agg (aY f), .i a] (.tup [.agg (bQ r.1), .b r.2.1, .b r.2.2]) := by
 unfold zW at h;refine kR func200 rfl (rs := [.cell 4 184, .tmp 5, .tmp 6]) results200 ntmps200 (Nat.le_of_ble_eq_true rfl) ?_;refine aC (aA ?_);refine bG rfl (cV (v := .agg (aY f)) (aE rfl) rfl rfl rfl) ?_;rintro _ ⟨b1, rfl⟩;refine bG rfl (cJ (zs := [.j 0, .j 0, .j 0]) (aE rfl) zeroValue184 rfl rfl) ?_;rintro _ ⟨b2, rfl⟩;refine ta Z2 (ta Z2 (aB (aC (aC (aA (ta (.i 0) (aB (bD ?_))))))));refine bP (S := Int × bR) [1, 2, 4] (fun s3 => [(7, .i s3.1)]) (fun s3 => [.box b1 0 (aY f), .box b2 0 (bQ s3.2)]) (fun k s3 => sM a f k s3.1 s3.2) (fun _ => rfl) (0, (bR.mk 0 0 0)) h (aO [0, 1] rfl rfl (aH rfl (aK (ae rfl)))) ?_;rintro k4 ⟨e, o⟩ h;simp only [sM] at h;refine aC (aC (aA (tm (.i e) (tfl 0 rfl rfl iD rfl mD (to (sle rfl kV.of) (to (scm rfl rfl rfl) (aB ?_)))))));refine tih h (fun c5 h => ?_) (fun c5 h => ?_)
 ·refine aU (aC (bD (aC (aA (tfl 0 rfl rfl iD rfl mD (tm (.i e) ?_))))));obtain ⟨x6, h7, h⟩ := bns h;refine to (six rfl rfl kV.of (aW bQ h7)) (to (sfc [.j x6.One] rfl pI) (to (slc rfl aQ) (tm (.i a) (to (scm rfl rfl rfl) (tm (.b (decide (x6.One = a))) ?_)))));obtain ⟨b8, h9, h⟩ := bns h;refine aV 13 [1, 2, 4, 7] 36 b8 ?_ ?_
  ·refine bch h9 (fun c h9 => ?_) (fun c h9 => ?_)
   ·refine tp c (tp c (tp c (tp c (tp c (tp c (tp c (tp c (tp c (tq (tq (tp c (to (spt Z14 c) ?_))))))))))));obtain rfl := sIn h9;refine aB (aJ rfl (ae rfl) rfl)
   ·refine tkl 0 c rfl rfl iD rfl mD (tk c (sm (.i e)) ?_);obtain ⟨p, s, h9⟩ := bns h9;refine tk c (six rfl rfl kV.of (aW bQ s)) (tk c (sfc [.j p.Two] rfl kM) (tk c (slc rfl aQ) (tk c (sm (.i a)) (tk c (scm rfl rfl rfl) (tk c (sm (.b (decide (p.Two = a)))) ?_)))));obtain ⟨q, m, h9⟩ := bns h9;refine aV 3 [1, 2, 4, 7, 23, 24, 25, 26, 27, 28, 29, 30, 31, 32] 35 q ?_ ?_
    ·refine bch m (fun l m => ?_) (fun l m => ?_)
     ·refine tk l (sm (.i a)) (tk l (scm rfl rfl rfl) (tk c (spt (.b (decide (0 ≤ a))) l) ?_));obtain rfl := sIn m;refine aB (aJ rfl (ae rfl) rfl)
     ·refine tp l (tp l (tk c (spf Z2 l) ?_));obtain rfl := sIn m;refine aB (aJ rfl (ae rfl) rfl)
    ·refine to (spf (.b q) c) ?_;obtain rfl := sIn h9;refine aB (aJ rfl (ae rfl) rfl)
  ·refine aB ?_;refine tih h (fun t h => ?_) (fun t h => ?_)
   ·refine aC ?_;obtain ⟨g, u, h⟩ := bns h;obtain ⟨j, x, h⟩ := bns h;refine iE mix 14 [4] (fun n => [(49, .b (decide (j.Two = a)))]) (fun n => [.box b1 0 (aY f), .box b2 0 (bQ g)]) ?_ ?_
    ·refine ⟨0, fun n => [(37, 0, .bp b1 0 5), (38, 1, .d (.sl 3 (f.Teams.map bQ))), (39, 2, .i e), (40, 3, .cp [.j g.Player, .j g.One, .j g.Two]), (41, 4, .agg (bQ g)), (42, 5, .bp b1 0 5), (43, 6, .d (.sl 3 (f.Teams.map bQ))), (44, 7, .i e), (45, 8, .cp [.j j.Player, .j j.One, .j j.Two]), (46, 9, .cp [.j j.Two]), (47, 10, .i j.Two), (48, 11, .i a), (49, 12, .b (decide (j.Two = a)))], fun n => [([], .box b1 0 (aY f)), ([(13, .box b2 0 (bQ g))], .box b2 0 (bQ o))], ?_, ?_⟩
     · exact xok [(0, 14), (1, 14), (0, 14), (203, 14), (4, 14), (0, 0), (6, 0), (0, 0), (708, 0), (9, 0), (10, 0), (0, 0), (1112, 0), (5, 0)] ⟨fun _ _ w _ k => xp w (yf k rfl iD),
 fun _ _ w _ k => xp w (yl k 0 rfl (og k rfl rfl) rfl mD),
 fun _ _ w _ k => xp w (ym k (.i e)),
 fun _ _ w _ k => xp w (yix k rfl rfl kV.of (aW bQ u)),
 fun _ _ w _ k => xp w (aWc k (bQ g) rfl xL),
 fun _ _ w _ k => xp w (yf k rfl iD),
 fun _ _ w _ k => xp w (yl k 0 rfl (og k rfl rfl) rfl mD),
 fun _ _ w _ k => xp w (ym k (.i e)),
 fun _ _ w _ k => xp w (yix k rfl rfl kV.of (aW bQ x)),
 fun _ _ w _ k => xp w (yfc k [.j j.Two] rfl kM),
 fun _ _ w _ k => xp w (ylc k rfl aQ),
 fun _ _ w _ k => xp w (ym k (.i a)),
 fun _ _ w _ k => xp w (ycm k rfl rfl rfl),
 fun _ _ _ _ k => xs 1 k rfl rfl (sW (i := 1) (aX k rfl) (og k rfl rfl) (aX k rfl) rfl rfl sizeOf184 rfl (aE rfl) (Nat.le_of_ble_eq_true rfl) (ds' := (bQ g)) rfl), trivial⟩
     · exact fun n => bT (aH rfl (aK (ae rfl)))
    ·intro n;refine ta (.b (decide (j.Two = a))) (ta Z14 (aB ?_));obtain rfl := sIn h;exact cD ⟨rfl, _, [.box b1 0 (aY f), .box b2 0 (bQ g)], .three (.cell 4 184 rfl (i := 1) rfl xL (es := (bQ g)) rfl rfl) (.tmp 5 (v := .b (decide (j.Two = a))) rfl) (.tmp 6 (v := .b true) rfl), .refl _, .same _⟩
   ·refine cA ?_;refine aA (tm (.i e) (to (sar rfl rfl rfl) (ta (.i (w64 (e + 1))) (aB ?_))));exact ⟨(w64 (e + 1), o), h, aO [0, 1] rfl rfl (aH rfl (aK (ae rfl)))⟩
 ·refine bO ?_;refine .inl ⟨rfl, ?_⟩;simp only [aCa] at h;refine aC (aA (to (cZ (aE rfl) aDz (zs := [.j 0, .j 0, .j 0]) rfl rfl rfl rfl (es := [.j 0, .j 0, .j 0]) rfl) ?_));refine to (sst 1 rfl rfl sizeOf184 (bQ (bR.mk 0 0 0))) (ta Z2 (ta Z2 (aB ?_)));obtain rfl := sIn h;exact cD ⟨rfl, _, [.box b1 0 (aY f), .box b2 0 (bQ (bR.mk 0 0 0))], .three (.cell 4 184 rfl (i := 1) rfl xL (es := (bQ (bR.mk 0 0 0))) rfl rfl) (.tmp 5 (v := .b false) rfl) (.tmp 6 (v := .b false) rfl), .refl _, .same _⟩

theorem pV (c : bB) (a : Int) {r : Bool} (h : nV c a = some r) : Fn Tryz.prog 152 [.agg (aY c), .i a] (.b r) := by
 unfold nV at h;refine oT [.tmp 4] func152 results152 ntmps152 ?_;refine aC (aA ?_);refine bG rfl (cV (v := .agg (aY c)) (aE rfl) rfl rfl rfl) ?_;rintro _ ⟨b1, rfl⟩;refine ta Z2 (aB (aC (aA (to (sla 0 (aY c) rfl rfl fK) (tm (.i a) ?_)))));obtain ⟨r2, h3, h⟩ := bns h;refine to (eO (aE rfl) (.func _ _ call200) rfl rfl (aMy _ _ h3)) ?_;refine tm (.tup [.agg (bQ r2.1), .b r2.2.1, .b r2.2.2]) (to (sex rfl rfl) (to (sex rfl rfl) (to (sex rfl rfl) ?_)));refine bG rfl (cJ (zs := [.j 0, .j 0, .j 0]) (aE rfl) zeroValue184 rfl rfl) ?_;rintro _ ⟨b4, rfl⟩;refine to (sst 1 rfl rfl sizeOf184 (bQ r2.1)) (ta (.b r2.2.1) (ta (.b r2.2.2) (aB (aC (aA (tm (.b r2.2.2) (tm (.b r2.2.2) ?_)))))));obtain ⟨b5, h6, h⟩ := bns h;refine aV 3 [] 19 b5 ?_ ?_
 ·refine bch h6 (fun c7 h6 => ?_) (fun c7 h6 => ?_)
  ·refine tk c7 (sm (.i a)) (tk c7 (scm rfl rfl rfl) (to (spt (.b (decide (0 ≤ a))) c7) ?_));obtain rfl := sIn h6;refine aB (aJ rfl trivial rfl)
  ·refine tp c7 (tp c7 (to (spf Z2 c7) ?_));obtain rfl := sIn h6;refine aB (aJ rfl trivial rfl)
 ·refine ta (.b b5) (aB ?_);obtain rfl := sIn h;refine bK (bE (bH (l := [4]) (ae rfl))) ?_;exact rt

theorem aGv (a : bB) {r : Bool} (h : rT a = some r) : Fn Tryz.prog 98 [.agg (aY a)] (.b r) := by
 unfold rT at h;refine oT [.tmp 2] func98 results98 ntmps98 ?_;refine aC (aA ?_);refine bG rfl (cV (v := .agg (aY a)) (aE rfl) rfl rfl rfl) ?_;rintro _ ⟨b1, rfl⟩;refine ta Z2 (aB (aC (aC (aA (ta (.i 0) (aB (bD ?_)))))));refine bP (S := Int) [1] (fun s2 => [(3, .i s2)]) (fun s2 => [.box b1 0 (aY a)]) (fun k s2 => gO a k s2) (fun _ => rfl) (0) h (aO [0] rfl rfl (aH rfl (aK (ae rfl)))) ?_;rintro k3 c h;simp only [gO] at h;refine aC (aC (aA (tm (.i c) (tfl 0 rfl rfl wU rfl aBk (to (sle rfl aAm.of) (to (scm rfl rfl rfl) (aB ?_)))))));refine tih h (fun c4 h => ?_) (fun c4 h => ?_)
 ·refine aU (aC (bD (aC (aC ?_))));obtain ⟨x5, h6, h⟩ := bns h;obtain ⟨r7, h8, h⟩ := bns h;obtain ⟨b9, o, h⟩ := bns h;refine cI mix 19 [1, 3] [(33, .b b9)] ?_ ?_
  ·refine bch o (fun e o => ?_) (fun e o => ?_)
   ·obtain rfl := sIn o;refine ⟨[(15, 0, .agg (aY a)), (16, 1, .bp b1 0 6), (17, 2, .d (Z57 a)), (18, 3, .i c), (19, 4, .cp [.j x5.Person, .j x5.Mille]), (20, 5, .cp [.j x5.Person]), (21, 6, .i x5.Person), (22, 7, .b r7), (23, 8, .b (!r7)), (24, 9, .b (!r7)), (25, 10, .tup []), (26, 11, .tup []), (27, 12, .tup []), (28, 13, .tup []), (29, 14, .tup []), (30, 15, .tup []), (31, 16, .tup []), (32, 17, .tup []), (33, 18, .b true)], ?_, ?_⟩
    · exact dk [0, 0, 2, 0, 304, 5, 6, 107, 8, 9, 10, 1011, 10, 101213, 1014, 1015, 1016, 1017, 1018] ⟨go (zla 0 (aY a) rfl rfl fK),
 go (zf rfl wU),
 go (zl 0 rfl rfl rfl aBk),
 go (zm (.i c)),
 go (zix rfl rfl aAm.of (aW cM h6)),
 go (zfc [.j x5.Person] rfl aCc),
 go (zlc rfl aQ),
 go fun S hS => cT (aE rfl) (.func _ _ call152) (ev2 (aX hS rfl) (ev2 (aX hS rfl) evn)) rfl (BVs.refl _ _) (pV _ _ h8) rfl,
 go (zn rfl),
 go (zm (.b (!r7))),
 gp e,
 gp e,
 gp e,
 gp e,
 gp e,
 gp e,
 gp e,
 gp e,
 go (zpt Z14 e), trivial⟩
    · exact bT (aH rfl (aK (ae rfl)))
   ·obtain ⟨x, F, o⟩ := bns o;obtain ⟨y, G, o⟩ := bns o;obtain rfl := sIn o;refine ⟨[(15, 0, .agg (aY a)), (16, 1, .bp b1 0 6), (17, 2, .d (Z57 a)), (18, 3, .i c), (19, 4, .cp [.j x5.Person, .j x5.Mille]), (20, 5, .cp [.j x5.Person]), (21, 6, .i x5.Person), (22, 7, .b r7), (23, 8, .b (!r7)), (24, 9, .b (!r7)), (25, 10, .bp b1 0 6), (26, 11, .d (Z57 a)), (27, 12, .i c), (28, 13, .cp [.j x.Person, .j x.Mille]), (29, 14, .cp [.j x.Mille]), (30, 15, .i x.Mille), (31, 16, .b y), (32, 17, .b (!y)), (33, 18, .b (!y))], ?_, ?_⟩
    · exact dk [0, 0, 2, 0, 304, 5, 6, 107, 8, 9, 10, 1011, 10, 101213, 1014, 1015, 1016, 1017, 1018] ⟨go (zla 0 (aY a) rfl rfl fK),
 go (zf rfl wU),
 go (zl 0 rfl rfl rfl aBk),
 go (zm (.i c)),
 go (zix rfl rfl aAm.of (aW cM h6)),
 go (zfc [.j x5.Person] rfl aCc),
 go (zlc rfl aQ),
 go fun S hS => cT (aE rfl) (.func _ _ call152) (ev2 (aX hS rfl) (ev2 (aX hS rfl) evn)) rfl (BVs.refl _ _) (pV _ _ h8) rfl,
 go (zn rfl),
 go (zm (.b (!r7))),
 gt e (zf rfl wU),
 gt e (zl 0 rfl rfl rfl aBk),
 gt e (zm (.i c)),
 gt e (zix rfl rfl aAm.of (aW cM F)),
 gt e (zfc [.j x.Mille] rfl aSd),
 gt e (zlc rfl aQ),
 gt e fun S hS => cT (aE rfl) (.func _ _ call96) (ev2 (aX hS rfl) (ev2 rfl (ev2 rfl evn))) rfl (BVs.refl _ _) (dR _ _ _ G) rfl,
 gt e (zn rfl),
 go (zpf (.b (!y)) e), trivial⟩
    · exact bT (aH rfl (aK (ae rfl)))
  ·refine aB ?_;refine tih h (fun H h => ?_) (fun H h => ?_)
   ·refine aC (aA (ta Z2 (aB ?_)));obtain rfl := sIn h;refine bK (bE (bH (l := [2]) (ae rfl))) ?_;exact rt
   ·refine aU (aC (aA (ta (.i 0) (aB ?_))));refine vQ ?_;refine bP (S := Int) [1, 3] (fun z => [(4, .i z)]) (fun z => [.box b1 0 (aY a)]) (fun k z => oS (gO a k3) c a k z) (fun _ => rfl) (0) h (aO [0] rfl rfl (aH rfl (aK (ae rfl)))) ?_;rintro a2 g h;simp only [oS] at h;refine aC (aC (aA (tm (.i g) (tm (.i c) (to (scm rfl rfl rfl) (aB ?_))))));refine tih h (fun I h => ?_) (fun I h => ?_)
    ·refine aU (aC (bD (aC ?_)));obtain ⟨t, J, h⟩ := bns h;obtain ⟨u, K, h⟩ := bns h;refine cI mix 12 [1, 3, 4] [(44, .i t.Person), (50, .i u.Person)] ?_ ?_
     ·refine ⟨[(39, 0, .bp b1 0 6), (40, 1, .d (Z57 a)), (41, 2, .i g), (42, 3, .cp [.j t.Person, .j t.Mille]), (43, 4, .cp [.j t.Person]), (44, 5, .i t.Person), (45, 6, .bp b1 0 6), (46, 7, .d (Z57 a)), (47, 8, .i c), (48, 9, .cp [.j u.Person, .j u.Mille]), (49, 10, .cp [.j u.Person]), (50, 11, .i u.Person)], ?_, ?_⟩
      · exact dk [0, 1, 0, 203, 4, 5, 0, 7, 0, 809, 10, 11] ⟨go (zf rfl wU),
 go (zl 0 rfl rfl rfl aBk),
 go (zm (.i g)),
 go (zix rfl rfl aAm.of (aW cM J)),
 go (zfc [.j t.Person] rfl aCc),
 go (zlc rfl aQ),
 go (zf rfl wU),
 go (zl 0 rfl rfl rfl aBk),
 go (zm (.i c)),
 go (zix rfl rfl aAm.of (aW cM K)),
 go (zfc [.j u.Person] rfl aCc),
 go (zlc rfl aQ), trivial⟩
      · exact bT (aH rfl (aH rfl (aK (ae rfl))))
     ·refine to (scm rfl rfl rfl) (aB ?_);refine tih h (fun L h => ?_) (fun L h => ?_)
      ·refine aC (aA (ta Z2 (aB ?_)));obtain rfl := sIn h;refine bK (bE (bH (l := [2]) (ae rfl))) ?_;exact rt
      ·refine cA ?_;refine aA (tm (.i g) (to (sar rfl rfl rfl) (ta (.i (w64 (g + 1))) (aB ?_))));exact ⟨(w64 (g + 1)), h, aO [0] rfl rfl (aH rfl (aK (ae rfl)))⟩
    ·refine bO ?_;refine .inl ⟨rfl, ?_⟩;simp only [yF] at h;simp only [yE] at h;refine aA (tm (.i c) (to (sar rfl rfl rfl) (ta (.i (w64 (c + 1))) (aB ?_))));exact ⟨(w64 (c + 1)), h, aO [0] rfl rfl (aH rfl (aK (ae rfl)))⟩
 ·refine bO ?_;refine .inl ⟨rfl, ?_⟩;simp only [sY] at h;refine aC (aC (aA (ta (.i 0) (aB (bD ?_)))));refine bP (S := Int) [1] (fun A => [(5, .i A)]) (fun A => [.box b1 0 (aY a)]) (fun k A => gP a k A) (fun _ => rfl) (0) h (aO [0] rfl rfl (aH rfl (aK (ae rfl)))) ?_;rintro M f h;simp only [gP] at h;refine aC (aC (aA (tm (.i f) (tfl 0 rfl rfl aFq rfl aMi (to (sle rfl aHk.of) (to (scm rfl rfl rfl) (aB ?_)))))));refine tih h (fun N h => ?_) (fun N h => ?_)
  ·refine aU (aC (bD (aC (aA (tfl 0 rfl rfl aFq rfl aMi (tm (.i f) ?_))))));obtain ⟨w, O, h⟩ := bns h;refine to (six rfl rfl aHk.of (aW cP O)) (to (tG (cP w) rfl aQw) ?_);refine bG rfl (cJ (zs := [.j 0, .j 0, .j 0]) (aE rfl) zeroValue238 rfl rfl) ?_;rintro _ ⟨C, rfl⟩;refine to (sst 1 rfl rfl sizeOf238 (cP w)) (aB (aC (aC (aA (to (sla 0 (aY a) rfl rfl fK) (tfl 1 rfl rfl aCd rfl aQ ?_))))));obtain ⟨P, Q, h⟩ := bns h;refine to (scr call152 (pV _ _ Q)) (to (sn rfl) (tm (.b (!P)) ?_));obtain ⟨E, p, h⟩ := bns h;refine aV 5 [1, 5, 6] 74 E ?_ ?_
   ·refine bch p (fun m p => ?_) (fun m p => ?_)
    ·refine tp m (tp m (tp m (tp m (to (spt Z14 m) ?_))));obtain rfl := sIn p;refine aB (aJ rfl (ae rfl) rfl)
    ·refine tkl 1 m rfl rfl aKq rfl aQ ?_;obtain ⟨T, U, p⟩ := bns p;refine tk m (scr call96 (dR _ _ _ U)) (tk m (sn rfl) (to (spf (.b (!T)) m) ?_));obtain rfl := sIn p;refine aB (aJ rfl (ae rfl) rfl)
   ·refine tm (.b E) ?_;obtain ⟨V, q, h⟩ := bns h;refine aV 5 [1, 5, 6] 80 V ?_ ?_
    ·refine bch q (fun n q => ?_) (fun n q => ?_)
     ·refine tp n (tp n (tp n (tp n (to (spt Z14 n) ?_))));obtain rfl := sIn q;refine aB (aJ rfl (ae rfl) rfl)
     ·refine tkl 1 n rfl rfl aSe rfl aQ ?_;obtain ⟨W, X, q⟩ := bns q;refine tk n (scr call96 (dR _ _ _ X)) (tk n (sn rfl) (to (spf (.b (!W)) n) ?_));obtain rfl := sIn q;refine aB (aJ rfl (ae rfl) rfl)
    ·refine aB ?_;refine tih h (fun Y h => ?_) (fun Y h => ?_)
     ·refine aC (aA (ta Z2 (aB ?_)));obtain rfl := sIn h;refine bK (bE (bH (l := [2]) (ae rfl))) ?_;exact rt
     ·refine aU (aC (aA (ta (.i 0) (aB ?_))));refine vQ ?_;refine bP (S := Int) [1, 5, 6] (fun B => [(7, .i B)]) (fun B => [.box b1 0 (aY a), .box C 0 (cP w)]) (fun k B => oU (gP a M) f a w k B) (fun _ => rfl) (0) h (aO [0, 1] rfl rfl (aH rfl (aK (ae rfl)))) ?_;rintro a3 j h;simp only [oU] at h;refine aC (aC (aA (tm (.i j) (tm (.i f) (to (scm rfl rfl rfl) (aB ?_))))));refine tih h (fun Z h => ?_) (fun Z h => ?_)
      ·refine aU (aC (bD (aC ?_)));obtain ⟨s, a0, h⟩ := bns h;refine cI mix 8 [1, 5, 6, 7] [(91, .i s.Person), (93, .i w.Person)] ?_ ?_
       ·refine ⟨[(86, 0, .bp b1 0 7), (87, 1, .d (.sl 3 (a.Rates.map cP))), (88, 2, .i j), (89, 3, .cp [.j s.Person, .j s.Num, .j s.Den]), (90, 4, .cp [.j s.Person]), (91, 5, .i s.Person), (92, 6, .bp C 0 0), (93, 7, .i w.Person)], ?_, ?_⟩
        · exact dk [0, 1, 0, 203, 4, 5, 0, 7] ⟨go (zf rfl aFq),
 go (zl 0 rfl rfl rfl aMi),
 go (zm (.i j)),
 go (zix rfl rfl aHk.of (aW cP a0)),
 go (zfc [.j s.Person] rfl aCd),
 go (zlc rfl aQ),
 go (zf rfl aCd),
 go (zl 1 rfl rfl rfl aQ), trivial⟩
        · exact bT (aH rfl (aH rfl (aK (ae rfl))))
       ·refine to (scm rfl rfl rfl) (aB ?_);refine tih h (fun a1 h => ?_) (fun a1 h => ?_)
        ·refine aC (aA (ta Z2 (aB ?_)));obtain rfl := sIn h;refine bK (bE (bH (l := [2]) (ae rfl))) ?_;exact rt
        ·refine cA ?_;refine aA (tm (.i j) (to (sar rfl rfl rfl) (ta (.i (w64 (j + 1))) (aB ?_))));exact ⟨(w64 (j + 1)), h, aO [0, 1] rfl rfl (aH rfl (aK (ae rfl)))⟩
      ·refine bO ?_;refine .inl ⟨rfl, ?_⟩;simp only [yI] at h;simp only [yH] at h;refine aA (tm (.i f) (to (sar rfl rfl rfl) (ta (.i (w64 (f + 1))) (aB ?_))));exact ⟨(w64 (f + 1)), h, aO [0] rfl rfl (aH rfl (aK (ae rfl)))⟩
  ·refine bO ?_;refine .inl ⟨rfl, ?_⟩;simp only [yG] at h;refine aC (aA (ta Z14 (aB ?_)));obtain rfl := sIn h;refine bK (bE (bH (l := [2]) (ae rfl))) ?_;exact rt

theorem aGu (j : bB) {r : Bool} (h : rS j = some r) : Fn Tryz.prog 99 [.agg (aY j)] (.b r) := by
 unfold rS at h;refine oT [.tmp 2] func99 results99 ntmps99 ?_;refine aC (aA ?_);refine bG rfl (cV (v := .agg (aY j)) (aE rfl) rfl rfl rfl) ?_;rintro _ ⟨b1, rfl⟩;refine ta Z2 (aB (aC (aC (aA (ta (.i 0) (aB (bD ?_)))))));refine bP (S := Int) [1] (fun s2 => [(3, .i s2)]) (fun s2 => [.box b1 0 (aY j)]) (fun k s2 => gN j k s2) (fun _ => rfl) (0) h (aO [0] rfl rfl (aH rfl (aK (ae rfl)))) ?_;rintro k3 n h;simp only [gN] at h;refine aC (aC (aA (tm (.i n) (tfl 0 rfl rfl sQ rfl xP (to (sle rfl cQ.of) (to (scm rfl rfl rfl) (aB ?_)))))));refine tih h (fun c4 h => ?_) (fun c4 h => ?_)
 ·refine aU (aC (bD (aC (aA (tfl 0 rfl rfl sQ rfl xP (tm (.i n) ?_))))));obtain ⟨x5, h6, h⟩ := bns h;refine to (six rfl rfl cQ.of (aW aI h6)) (to (tG (aI x5) rfl eU) ?_);refine bG rfl (cJ (zs := [.j 0, .j 0, .j 0, .j 0]) (aE rfl) zeroValue240 rfl rfl) ?_;rintro _ ⟨b7, rfl⟩;refine to (sst 1 rfl rfl sizeOf240 (aI x5)) (aB (aC (aC (aA (tfl 1 rfl rfl mC rfl aQ ?_)))));obtain ⟨r8, h9, h⟩ := bns h;refine to (scr call96 (dR _ _ _ h9)) (to (sn rfl) (tm (.b (!r8)) ?_));obtain ⟨B, u, h⟩ := bns h;refine aV 6 [1, 3, 4] 28 B ?_ ?_
  ·refine bch u (fun o u => ?_) (fun o u => ?_)
   ·refine tp o (tp o (tp o (tp o (tp o (to (spt Z14 o) ?_)))));obtain rfl := sIn u;refine aB (aJ rfl (ae rfl) rfl)
   ·refine tk o (sla 0 (aY j) rfl rfl fK) (tkl 1 o rfl rfl aKr rfl aQ ?_);obtain ⟨H, I, u⟩ := bns u;refine tk o (scr call152 (pV _ _ I)) (tk o (sn rfl) (to (spf (.b (!H)) o) ?_));obtain rfl := sIn u;refine aB (aJ rfl (ae rfl) rfl)
  ·refine tm (.b B) ?_;obtain ⟨J, q, h⟩ := bns h;refine aV 20 [1, 3, 4] 49 J ?_ ?_
   ·refine bch q (fun e q => ?_) (fun e q => ?_)
    ·refine tp e (tp e (tp e (tp e (tq (tq (tq (tp e (tp e (tq (tq (tq (tq (tq ?_)))))))))))));refine tq (tq (tq (tp e (tp e (to (spt Z14 e) ?_)))));obtain rfl := sIn q;refine aB (aJ rfl (ae rfl) rfl)
    ·refine tkl 1 e rfl rfl wX rfl aQ (tk e (scm rfl rfl rfl) (tk e (sm (.b (decide (x5.Kind = 1)))) ?_));obtain ⟨C, w, q⟩ := bns q;refine aV 4 [1, 3, 4, 29, 30, 31, 32, 33] 37 C ?_ ?_
     ·refine bch w (fun s w => ?_) (fun s w => ?_)
      ·refine tkl 1 s rfl rfl aFr rfl aQ ?_;obtain ⟨K, L, w⟩ := bns w;refine tk s (scr call96 (dR _ _ _ L)) (tk e (spt (.b K) s) ?_);obtain rfl := sIn w;refine aB (aJ rfl (ae rfl) rfl)
      ·refine tp s (tp s (tp s (tk e (spf Z2 s) ?_)));obtain rfl := sIn w;refine aB (aJ rfl (ae rfl) rfl)
     ·refine tk e (sm (.b C)) ?_;obtain ⟨E, x, q⟩ := bns q;refine aV 9 [1, 3, 4, 29, 30, 31, 32, 33, 37, 38] 47 E ?_ ?_
      ·refine bch x (fun m x => ?_) (fun m x => ?_)
       ·refine tp m (tp m (tp m (tp m (tq (tq (tq (tp m (tk e (spt Z14 m) ?_))))))));obtain rfl := sIn x;refine aB (aJ rfl (ae rfl) rfl)
       ·refine tkl 1 m rfl rfl wX rfl aQ (tk m (scm rfl rfl rfl) (tk m (sm (.b (decide (x5.Kind = 2)))) ?_));obtain ⟨F, y, x⟩ := bns x;refine aV 4 [1, 3, 4, 29, 30, 31, 32, 33, 37, 38, 39, 40, 41, 42] 46 F ?_ ?_
        ·refine bch y (fun t y => ?_) (fun t y => ?_)
         ·refine tkl 1 t rfl rfl aFr rfl aQ ?_;obtain ⟨M, N, y⟩ := bns y;refine tk t (scr call96 (dR _ _ _ N)) (tk m (spt (.b M) t) ?_);obtain rfl := sIn y;refine aB (aJ rfl (ae rfl) rfl)
         ·refine tp t (tp t (tp t (tk m (spf Z2 t) ?_)));obtain rfl := sIn y;refine aB (aJ rfl (ae rfl) rfl)
        ·refine tk e (spf (.b F) m) ?_;obtain rfl := sIn x;refine aB (aJ rfl (ae rfl) rfl)
      ·refine tk e (sn rfl) (to (spf (.b (!E)) e) ?_);obtain rfl := sIn q;refine aB (aJ rfl (ae rfl) rfl)
   ·refine aB ?_;refine tih h (fun O h => ?_) (fun O h => ?_)
    ·refine aC (aA (ta Z2 (aB ?_)));obtain rfl := sIn h;refine bK (bE (bH (l := [2]) (ae rfl))) ?_;exact rt
    ·refine aU (aC (aA (ta (.i 0) (aB ?_))));refine vQ ?_;refine bP (S := Int) [1, 3, 4] (fun A => [(5, .i A)]) (fun A => [.box b1 0 (aY j), .box b7 0 (aI x5)]) (fun k A => oR (gN j k3) n j x5 k A) (fun _ => rfl) (0) h (aO [0, 1] rfl rfl (aH rfl (aK (ae rfl)))) ?_;rintro V c h;simp only [oR] at h;refine aC (aC (aA (tm (.i c) (tm (.i n) (to (scm rfl rfl rfl) (aB ?_))))));refine tih h (fun P h => ?_) (fun P h => ?_)
     ·refine aU (aC (bD (aC ?_)));obtain ⟨f, G, h⟩ := bns h;obtain ⟨Q, z, h⟩ := bns h;refine cI mix 18 [1, 3, 4, 5] [(72, .b Q)] ?_ ?_
      ·refine bch z (fun g z => ?_) (fun g z => ?_)
       ·obtain ⟨p, T, z⟩ := bns z;obtain rfl := sIn z;refine ⟨[(55, 0, .bp b1 0 8), (56, 1, .d (.sl 4 (j.Items.map aI))), (57, 2, .i c), (58, 3, .cp [.j f.Id, .j f.Kind, .j f.Person, .j f.Amount]), (59, 4, .cp [.j f.Id]), (60, 5, .i f.Id), (61, 6, .bp b7 0 0), (62, 7, .i x5.Id), (63, 8, .b (decide (f.Id = x5.Id))), (64, 9, .b (decide (f.Id = x5.Id))), (65, 10, .bp b1 0 8), (66, 11, .d (.sl 4 (j.Items.map aI))), (67, 12, .i c), (68, 13, .cp [.j p.Id, .j p.Kind, .j p.Person, .j p.Amount]), (69, 14, .agg (aI p)), (70, 15, .agg (aI x5)), (71, 16, .b (!decide (p = x5))), (72, 17, .b (!decide (p = x5)))], ?_, ?_⟩
        · exact dk [0, 1, 0, 203, 4, 5, 0, 7, 608, 9, 10, 1011, 10, 101213, 1014, 10, 101516, 1017] ⟨go (zf rfl sQ),
 go (zl 0 rfl rfl rfl xP),
 go (zm (.i c)),
 go (zix rfl rfl cQ.of (aW aI G)),
 go (zfc [.j f.Id] rfl mC),
 go (zlc rfl aQ),
 go (zf rfl mC),
 go (zl 1 rfl rfl rfl aQ),
 go (zcm rfl rfl rfl),
 go (zm (.b (decide (f.Id = x5.Id)))),
 gt g (zf rfl sQ),
 gt g (zl 0 rfl rfl rfl xP),
 gt g (zm (.i c)),
 gt g (zix rfl rfl cQ.of (aW aI T)),
 gt g (aFg (aI p) rfl eU),
 gt g (zla 1 (aI x5) rfl rfl eU),
 gt g fun S hS => aMl (a := p) (b := x5) (aE rfl) (aX hS rfl) (aX hS rfl) rfl rfl Tryz.eqGuardType240 aMd,
 go (zpt (.b (!decide (p = x5))) g), trivial⟩
        · exact bT (aH rfl (aK (ae rfl)))
       ·obtain rfl := sIn z;refine ⟨[(55, 0, .bp b1 0 8), (56, 1, .d (.sl 4 (j.Items.map aI))), (57, 2, .i c), (58, 3, .cp [.j f.Id, .j f.Kind, .j f.Person, .j f.Amount]), (59, 4, .cp [.j f.Id]), (60, 5, .i f.Id), (61, 6, .bp b7 0 0), (62, 7, .i x5.Id), (63, 8, .b (decide (f.Id = x5.Id))), (64, 9, .b (decide (f.Id = x5.Id))), (65, 10, .tup []), (66, 11, .tup []), (67, 12, .tup []), (68, 13, .tup []), (69, 14, .tup []), (70, 15, .tup []), (71, 16, .tup []), (72, 17, .b false)], ?_, ?_⟩
        · exact dk [0, 1, 0, 203, 4, 5, 0, 7, 608, 9, 10, 1011, 10, 101213, 1014, 10, 101516, 1017] ⟨go (zf rfl sQ),
 go (zl 0 rfl rfl rfl xP),
 go (zm (.i c)),
 go (zix rfl rfl cQ.of (aW aI G)),
 go (zfc [.j f.Id] rfl mC),
 go (zlc rfl aQ),
 go (zf rfl mC),
 go (zl 1 rfl rfl rfl aQ),
 go (zcm rfl rfl rfl),
 go (zm (.b (decide (f.Id = x5.Id)))),
 gp g,
 gp g,
 gp g,
 gp g,
 gp g,
 gp g,
 gp g,
 go (zpf Z2 g), trivial⟩
        · exact bT (aH rfl (aK (ae rfl)))
      ·refine aB ?_;refine tih h (fun U h => ?_) (fun U h => ?_)
       ·refine aC (aA (ta Z2 (aB ?_)));obtain rfl := sIn h;refine bK (bE (bH (l := [2]) (ae rfl))) ?_;exact rt
       ·refine cA ?_;refine aA (tm (.i c) (to (sar rfl rfl rfl) (ta (.i (w64 (c + 1))) (aB ?_))));exact ⟨(w64 (c + 1)), h, aO [0, 1] rfl rfl (aH rfl (aK (ae rfl)))⟩
     ·refine bO ?_;refine .inl ⟨rfl, ?_⟩;simp only [yD] at h;simp only [yC] at h;refine aA (tm (.i n) (to (sar rfl rfl rfl) (ta (.i (w64 (n + 1))) (aB ?_))));exact ⟨(w64 (n + 1)), h, aO [0] rfl rfl (aH rfl (aK (ae rfl)))⟩
 ·refine bO ?_;refine .inl ⟨rfl, ?_⟩;simp only [oQ] at h;refine aC (aA (tfl 0 rfl rfl sQ rfl xP (to (sle rfl cQ.of) (to (scm rfl rfl rfl) (ta (.b (decide ((j.Items.length : Int) ≤ 40))) (aB ?_))))));obtain rfl := sIn h;refine bK (bE (bH (l := [2]) (ae rfl))) ?_;exact rt

theorem aKk (e : bB) {r : Int} (h : oE e = some r) : Fn Tryz.prog 40 [.agg (aY e)] (.i r) := by
 unfold oE at h;refine oT [.tmp 2] func40 results40 ntmps40 ?_;refine aC (aA ?_);refine bG rfl (cV (v := .agg (aY e)) (aE rfl) rfl rfl rfl) ?_;rintro _ ⟨b1, rfl⟩;refine ta (.i 0) (aB (aC (aC (aA (to (sf rfl jU) (to (sla 0 (bI e.Tree) rfl rfl kD) (tfl 0 rfl rfl uI rfl aCg ?_)))))));obtain ⟨r2, h3, h⟩ := bns h;refine to (scr call61 (aKj _ _ h3)) (ta (.i r2) (aB (aC (aA (tm (.i r2) (to (scm rfl rfl rfl) (aB ?_)))))));refine tih h (fun c4 h => ?_) (fun c4 h => ?_)
 ·refine aC (aA (tm (.i r2) (ta (.i r2) (aB ?_))));obtain rfl := sIn h;refine bK (bE (bH (l := [2]) (ae rfl))) ?_;exact rt
 ·refine aU (aC (aC (aA (ta (.i 0) (aB (bD ?_))))));refine bP (S := Int) [1] (fun s5 => [(4, .i s5)]) (fun s5 => [.box b1 0 (aY e)]) (fun k s5 => iC e k s5) (fun _ => rfl) (0) h (aO [0] rfl rfl (aH rfl (aK (ae rfl)))) ?_;rintro k6 a h;simp only [iC] at h;refine aC (aC (aA (tm (.i a) (tfl 0 rfl rfl iZ rfl cC (to (sle rfl bC.of) (to (scm rfl rfl rfl) (aB ?_)))))));refine tih h (fun c7 h => ?_) (fun c7 h => ?_)
  ·refine aU (aC (bD (aC ?_)));obtain ⟨x8, h9, h⟩ := bns h;obtain ⟨g, u, h⟩ := bns h;obtain ⟨w, o, h⟩ := bns h;refine cI mix 25 [1, 4] [(44, .b w)] ?_ ?_
   ·refine bch o (fun f o => ?_) (fun f o => ?_)
    ·obtain rfl := sIn o;refine ⟨[(20, 0, .bp b1 0 3), (21, 1, .d (Z30 e)), (22, 2, .i a), (23, 3, .cp [.j x8]), (24, 4, .i x8), (25, 5, .b g), (26, 6, .b (!g)), (27, 7, .b (!g)), (28, 8, .tup []), (29, 9, .tup []), (30, 10, .tup []), (31, 11, .tup []), (32, 12, .tup []), (33, 13, .tup []), (34, 14, .tup []), (35, 15, .tup []), (36, 16, .tup []), (37, 17, .tup []), (38, 18, .tup []), (39, 19, .tup []), (40, 20, .tup []), (41, 21, .tup []), (42, 22, .tup []), (43, 23, .tup []), (44, 24, .b true)], ?_, ?_⟩
     · exact dk [0, 1, 0, 203, 4, 5, 6, 7, 8, 809, 810, 11, 1112, 11, 111314, 1115, 11, 1117, 11, 1119, 111820, 1121, 111622, 81123, 824] ⟨go (zf rfl iZ),
 go (zl 0 rfl rfl rfl cC),
 go (zm (.i a)),
 go (zix rfl rfl bC.of (aW aF h9)),
 go (zlc rfl aQ),
 go fun S hS => cT (aE rfl) (.func _ _ call96) (ev2 (aX hS rfl) (ev2 rfl (ev2 rfl evn))) rfl (BVs.refl _ _) (dR _ _ _ u) rfl,
 go (zn rfl),
 go (zm (.b (!g))),
 gp f,
 gp f,
 gp f,
 gq,
 gq,
 gq,
 gq,
 gq,
 gq,
 gq,
 gq,
 gq,
 gq,
 gq,
 gq,
 gp f,
 go (zpt Z14 f), trivial⟩
     · exact bT (aH rfl (aK (ae rfl)))
    ·obtain ⟨N, m, o⟩ := bns o;refine bch m (fun c m => ?_) (fun c m => ?_)
     ·obtain ⟨p, x, m⟩ := bns m;obtain ⟨q, y, m⟩ := bns m;obtain rfl := sIn m;obtain rfl := sIn o;refine ⟨[(20, 0, .bp b1 0 3), (21, 1, .d (Z30 e)), (22, 2, .i a), (23, 3, .cp [.j x8]), (24, 4, .i x8), (25, 5, .b g), (26, 6, .b (!g)), (27, 7, .b (!g)), (28, 8, .i a), (29, 9, .b (decide (0 < a))), (30, 10, .b (decide (0 < a))), (31, 11, .bp b1 0 3), (32, 12, .d (Z30 e)), (33, 13, .i a), (34, 14, .cp [.j p]), (35, 15, .i p), (36, 16, .bp b1 0 3), (37, 17, .d (Z30 e)), (38, 18, .i a), (39, 19, .i (w64 (a - 1))), (40, 20, .cp [.j q]), (41, 21, .i q), (42, 22, .b (decide (p < q))), (43, 23, .b (decide (p < q))), (44, 24, .b (decide (p < q)))], ?_, ?_⟩
      · exact dk [0, 1, 0, 203, 4, 5, 6, 7, 8, 809, 810, 11, 1112, 11, 111314, 1115, 11, 1117, 11, 1119, 111820, 1121, 111622, 81123, 824] ⟨go (zf rfl iZ),
 go (zl 0 rfl rfl rfl cC),
 go (zm (.i a)),
 go (zix rfl rfl bC.of (aW aF h9)),
 go (zlc rfl aQ),
 go fun S hS => cT (aE rfl) (.func _ _ call96) (ev2 (aX hS rfl) (ev2 rfl (ev2 rfl evn))) rfl (BVs.refl _ _) (dR _ _ _ u) rfl,
 go (zn rfl),
 go (zm (.b (!g))),
 gt f (zm (.i a)),
 gt f (zcm rfl rfl rfl),
 gt f (zm (.b (decide (0 < a)))),
 gt c (zf rfl iZ),
 gt c (zl 0 rfl rfl rfl cC),
 gt c (zm (.i a)),
 gt c (zix rfl rfl bC.of (aW aF x)),
 gt c (zlc rfl aQ),
 gt c (zf rfl iZ),
 gt c (zl 0 rfl rfl rfl cC),
 gt c (zm (.i a)),
 gt c (zar rfl rfl rfl),
 gt c (zix rfl rfl bC.of (aW aF y)),
 gt c (zlc rfl aQ),
 gt c (zcm rfl rfl rfl),
 gt f (zpt (.b (decide (p < q))) c),
 go (zpf (.b (decide (p < q))) f), trivial⟩
      · exact bT (aH rfl (aK (ae rfl)))
     ·obtain rfl := sIn m;obtain rfl := sIn o;refine ⟨[(20, 0, .bp b1 0 3), (21, 1, .d (Z30 e)), (22, 2, .i a), (23, 3, .cp [.j x8]), (24, 4, .i x8), (25, 5, .b g), (26, 6, .b (!g)), (27, 7, .b (!g)), (28, 8, .i a), (29, 9, .b (decide (0 < a))), (30, 10, .b (decide (0 < a))), (31, 11, .tup []), (32, 12, .tup []), (33, 13, .tup []), (34, 14, .tup []), (35, 15, .tup []), (36, 16, .tup []), (37, 17, .tup []), (38, 18, .tup []), (39, 19, .tup []), (40, 20, .tup []), (41, 21, .tup []), (42, 22, .tup []), (43, 23, .b false), (44, 24, .b (false))], ?_, ?_⟩
      · exact dk [0, 1, 0, 203, 4, 5, 6, 7, 8, 809, 810, 11, 1112, 11, 111314, 1115, 11, 1117, 11, 1119, 111820, 1121, 111622, 81123, 824] ⟨go (zf rfl iZ),
 go (zl 0 rfl rfl rfl cC),
 go (zm (.i a)),
 go (zix rfl rfl bC.of (aW aF h9)),
 go (zlc rfl aQ),
 go fun S hS => cT (aE rfl) (.func _ _ call96) (ev2 (aX hS rfl) (ev2 rfl (ev2 rfl evn))) rfl (BVs.refl _ _) (dR _ _ _ u) rfl,
 go (zn rfl),
 go (zm (.b (!g))),
 gt f (zm (.i a)),
 gt f (zcm rfl rfl rfl),
 gt f (zm (.b (decide (0 < a)))),
 gp c,
 gp c,
 gp c,
 gp c,
 gp c,
 gp c,
 gp c,
 gp c,
 gp c,
 gp c,
 gp c,
 gp c,
 gt f (zpf Z2 c),
 go (zpf Z43 f), trivial⟩
      · exact bT (aH rfl (aK (ae rfl)))
   ·refine aB ?_;refine tih h (fun z h => ?_) (fun z h => ?_)
    ·refine aC (aA (ta (.i 100) (aB ?_)));obtain rfl := sIn h;refine bK (bE (bH (l := [2]) (ae rfl))) ?_;exact rt
    ·refine cA ?_;refine aA (tm (.i a) (to (sar rfl rfl rfl) (ta (.i (w64 (a + 1))) (aB ?_))));exact ⟨(w64 (a + 1)), h, aO [0] rfl rfl (aH rfl (aK (ae rfl)))⟩
  ·refine bO ?_;refine .inl ⟨rfl, ?_⟩;simp only [rR] at h;refine aC (aC (aA (tfl 0 rfl rfl iZ rfl cC (to (sle rfl bC.of) (to (sf rfl jU) (tfl 0 rfl rfl iN rfl aQ (to (sar rfl rfl rfl) (to (scm rfl rfl rfl) (tm (Z60 e) ?_)))))))));obtain ⟨A, s, h⟩ := bns h;refine aV 5 [1] 58 A ?_ ?_
   ·refine bch s (fun j s => ?_) (fun j s => ?_)
    ·refine tp j (tp j (tp j (tp j (to (spt Z14 j) ?_))));obtain rfl := sIn s;refine aB (aJ rfl (ae rfl) rfl)
    ·refine tkl 0 j rfl rfl aSc rfl aQ ?_;obtain ⟨B, C, s⟩ := bns s;refine tk j (scr call96 (dR _ _ _ C)) (tk j (sn rfl) (to (spf (.b (!B)) j) ?_));obtain rfl := sIn s;refine aB (aJ rfl (ae rfl) rfl)
   ·refine aB ?_;refine tih h (fun E h => ?_) (fun E h => ?_)
    ·refine aC (aA (ta (.i 100) (aB ?_)));obtain rfl := sIn h;refine bK (bE (bH (l := [2]) (ae rfl))) ?_;exact rt
    ·refine aU (aC (aC (aA (to (sla 0 (aY e) rfl rfl fK) ?_))));obtain ⟨F, G, h⟩ := bns h;refine to (scr call97 (aGw _ G)) (to (sn rfl) (tm (.b (!F)) ?_));obtain ⟨H, t, h⟩ := bns h;refine aV 4 [1] 66 H ?_ ?_
     ·refine bch t (fun n t => ?_) (fun n t => ?_)
      ·refine tp n (tp n (tp n (to (spt Z14 n) ?_)));obtain rfl := sIn t;refine aB (aJ rfl (ae rfl) rfl)
      ·refine tk n (sla 0 (aY e) rfl rfl fK) ?_;obtain ⟨I, J, t⟩ := bns t;refine tk n (scr call98 (aGv _ J)) (tk n (sn rfl) (to (spf (.b (!I)) n) ?_));obtain rfl := sIn t;refine aB (aJ rfl (ae rfl) rfl)
     ·refine aB ?_;refine tih h (fun K h => ?_) (fun K h => ?_)
      ·refine aC (aA (ta (.i 101) (aB ?_)));obtain rfl := sIn h;refine bK (bE (bH (l := [2]) (ae rfl))) ?_;exact rt
      ·refine aU (aC (aC (aA (to (sla 0 (aY e) rfl rfl fK) ?_))));obtain ⟨O, L, h⟩ := bns h;refine to (scr call99 (aGu _ L)) (to (sn rfl) (aB ?_));refine tih h (fun M h => ?_) (fun M h => ?_)
       ·refine aC (aA (ta (.i 102) (aB ?_)));obtain rfl := sIn h;refine bK (bE (bH (l := [2]) (ae rfl))) ?_;exact rt
       ·refine aU (aC (aA (ta (.i 0) (aB ?_))));obtain rfl := sIn h;refine bK (bE (bH (l := [2]) (ae rfl))) ?_;exact rt

theorem aCp (e : List bR) (g : bR → Option Bool) {r : Int} (c : Nat) (f : List AV) (j : ∀ args w, (callFunc c args).run Tryz.prog w = .ok (.enter c args) w) (l : ∀ (x0 : bR) r, g x0 = some r → Fn Tryz.prog c ([.agg (bQ x0)] ++ f) (.b r)) (h : mJ e g = some r) : Fn Tryz.prog 164 [.d (.sl 3 (e.map bQ)), .fn c f] (.i r) := by
 unfold mJ at h;refine oT [.tmp 4] func164 results164 ntmps164 ?_;refine aC (aA (ta (.i 0) (aB (aC (aC (aA (tm (.d (.sl 3 (e.map bQ))) (to (sle rfl kV.of) (tm (.i 0) (aB (bD ?_)))))))))));refine bP (S := Int) [0, 1, 7] (fun s1 => [(8, .i s1)]) (fun s1 => []) (fun k s1 => eQ e g (e.length : Int) k s1) (fun _ => rfl) (0) h (aO [] rfl rfl (aH rfl (aK (ae rfl)))) ?_;rintro k2 a h;simp only [eQ] at h;refine aC (aA (to (scm rfl rfl rfl) (aB (aC ?_))));refine tih h (fun c3 h => ?_) (fun c3 h => ?_)
 ·refine aU (aC (bD (aC (aA (tm (.i a) (ta (.i a) (aB (aC (aA (tm (.fn c f) (tm (.d (.sl 3 (e.map bQ))) (tm (.i a) ?_))))))))))));obtain ⟨x4, h5, h⟩ := bns h;refine to (six rfl rfl kV.of (aW bQ h5)) (to (tG (bQ x4) rfl xL) ?_);obtain ⟨r6, h7, h⟩ := bns h;refine to (cT (aE rfl) (.clo _ _ _ _ j rfl) (wT rfl) rfl (BVs.refl _ _) (l _ _  h7) rfl) ?_;refine aB ?_;refine tih h (fun c8 h => ?_) (fun c8 h => ?_)
  ·refine aC (aA (tm (.i a) (ta (.i a) (aB ?_))));obtain rfl := sIn h;exact rt
  ·refine cA ?_;refine aA (to (sar rfl rfl rfl) (tm (.i (w64 (a + 1))) (aB ?_)));exact ⟨(w64 (a + 1)), h, aO [] rfl rfl (aH rfl (aK (ae rfl)))⟩
 ·refine bO ?_;refine .inl ⟨rfl, ?_⟩;simp only [uF] at h;refine aC (aA (ta (.i (-1)) (aB ?_)));obtain rfl := sIn h;exact rt

theorem aQk (a : bR) (c : Int) {r : Bool} (h : vG a c = some r) : Fn Tryz.prog 165 [.agg (bQ a), .cp [.j c]] (.b r) := by
 unfold vG at h;refine oT [.tmp 3] func165 results165 ntmps165 ?_;refine aC (aA ?_);refine bG rfl (cV (v := .agg (bQ a)) (aE rfl) rfl rfl rfl) ?_;rintro _ ⟨b1, rfl⟩;refine ta Z2 (aB (aC (aA (tfl 0 rfl rfl pI rfl aQ (to (slc rfl aQ) (to (scm rfl rfl rfl) (tm (.b (decide (a.One = c))) ?_)))))));obtain ⟨b2, h3, h⟩ := bns h;refine aV 10 [] 18 b2 ?_ ?_
 ·refine bch h3 (fun c4 h3 => ?_) (fun c4 h3 => ?_)
  ·refine tp c4 (tp c4 (tp c4 (tp c4 (tp c4 (tq (tq (tq (tp c4 (to (spt Z14 c4) ?_)))))))));obtain rfl := sIn h3;refine aB (aJ rfl trivial rfl)
  ·refine tkl 0 c4 rfl rfl kM rfl aQ (tk c4 (slc rfl aQ) (tk c4 (scm rfl rfl rfl) (tk c4 (sm (.b (decide (a.Two = c)))) ?_)));obtain ⟨b5, h6, h3⟩ := bns h3;refine aV 4 [8] 17 b5 ?_ ?_
   ·refine bch h6 (fun c7 h6 => ?_) (fun c7 h6 => ?_)
    ·refine tkl 0 c7 rfl rfl kM rfl aQ (tk c7 (scm rfl rfl rfl) (tk c4 (spt (.b (!decide (a.Two = (-1)))) c7) ?_));obtain rfl := sIn h6;refine aB (aJ rfl (ae rfl) rfl)
    ·refine tp c7 (tp c7 (tp c7 (tk c4 (spf Z2 c7) ?_)));obtain rfl := sIn h6;refine aB (aJ rfl (ae rfl) rfl)
   ·refine to (spf (.b b5) c4) ?_;obtain rfl := sIn h3;refine aB (aJ rfl trivial rfl)
 ·refine ta (.b b2) (aB ?_);obtain rfl := sIn h;refine bK (bE (bH (l := [3]) (ae rfl))) ?_;exact rt

theorem aGb (a : Int) (c : bR) (d : Int) {r : Int} (h : sC a c d = some r) : Fn Tryz.prog 166 [.i a, .cp (bQ c), .cp [.j d]] (.i r) := by
 unfold sC at h;refine oT [.tmp 4] func166 results166 ntmps166 ?_;refine aC (aA (ta (.i 0) (aB (aC (bD (aC (aA (to (sfc [.j c.Two] rfl kM) (to (slc rfl aQ) (to (scm rfl rfl rfl) (ta (.b (decide (c.Two = (-1)))) (aB ?_))))))))))));refine tih h (fun c1 h => ?_) (fun c1 h => ?_)
 ·refine aC (aA (tm (.i a) (ta (.i a) (aB ?_))));obtain rfl := sIn h;exact rt
 ·refine aC (aA (to (sfc [.j c.One] rfl pI) (to (slc rfl aQ) (to (slc rfl aQ) (to (scm rfl rfl rfl) (ta (.b (decide (c.One = d))) (aB ?_)))))));refine tih h (fun c2 h => ?_) (fun c2 h => ?_)
  ·refine aC (aA (tm (.i a) (to (sar rfl rfl rfl) (to (yS (aE rfl) rfl rfl (by decide)) ?_))));refine ta (.i (w64 ((w64 (a + 1)).tdiv 2))) (aB ?_);obtain rfl := sIn h;exact rt
  ·refine cA ?_;refine aC (aA (tm (.i a) (to (yS (aE rfl) rfl rfl (by decide)) ?_)));refine ta (.i (w64 (a.tdiv 2))) (aB ?_);obtain rfl := sIn h;exact rt

theorem aTj (c : bB) (a : Int) {r : cH × Bool} (h : yL c a = some r) : Fn Tryz.prog 104 [.agg (aY c), .i a] (.tup [.agg (cB r.1), .b r.2]) := by
 unfold yL at h;refine kR func104 rfl (rs := [.cell 4 63, .tmp 5]) results104 ntmps104 (Nat.le_of_ble_eq_true rfl) ?_;refine aC (aA ?_);refine bG rfl (cV (v := .agg (aY c)) (aE rfl) rfl rfl rfl) ?_;rintro _ ⟨b1, rfl⟩;refine bG rfl (cV (v := .i a) (aE rfl) rfl rfl rfl) ?_;rintro _ ⟨b2, rfl⟩;refine bG rfl (cJ (zs := [.j 0, .j 0]) (aE rfl) zeroValue63 rfl rfl) ?_;rintro _ ⟨b3, rfl⟩;refine ta Z2 (aB (aC (aA (tfl 0 rfl rfl iD rfl mD (to (aCm (aE rfl) rfl rfl) ?_)))));obtain ⟨r5, h6, h⟩ := bns h;refine to (sc call164 (aCp _ _ 165 [.cp [.j a]] call165 (fun _ _ h => aQk _ _ h) h6) (.cons (.same _) (.cons (aMb (.cons (sF 1 rfl rfl (dvc (.same _) dvn)) .nil)) .nil))) (ta (.i r5) (aB (aC (aC (aA (tm (.i r5) (to (scm rfl rfl rfl) (aB ?_))))))));refine tih h (fun c7 h => ?_) (fun c7 h => ?_)
 ·refine aC (aA (to (cZ (aE rfl) aCq (zs := [.j 0, .j 0]) rfl rfl rfl rfl (es := [.j 0, .j 0]) rfl) ?_));refine to (sst 2 rfl rfl sizeOf63 Z19) (ta Z2 (aB ?_));obtain rfl := sIn h;exact cD ⟨rfl, _, [.box b1 0 (aY c), .box b2 0 [.j a], .box b3 0 Z19], .two (.cell 4 63 rfl (i := 2) rfl xZ (es := Z19) rfl rfl) (.tmp 5 (v := .b false) rfl), .refl _, .same _⟩
 ·refine aU (aC (aA (tfl 0 rfl rfl iD rfl mD (tm (.i r5) ?_))));obtain ⟨x8, h9, h⟩ := bns h;refine to (six rfl rfl kV.of (aW bQ h9)) (to (tG (bQ x8) rfl xL) ?_);refine bG rfl (cJ (zs := [.j 0, .j 0, .j 0]) (aE rfl) zeroValue184 rfl rfl) ?_;rintro _ ⟨f, rfl⟩;refine to (sst 3 rfl rfl sizeOf184 (bQ x8)) (aB (aC (aA (to (sf rfl jU) (to (sla 0 (bI c.Tree) rfl rfl kD) (tfl 0 rfl rfl uI rfl aCg (tfl 3 rfl rfl wW rfl aQ ?_)))))));obtain ⟨e, n, h⟩ := bns h;refine to (eO (aE rfl) (.func _ _ call25) rfl rfl (aMu _ _ _ n)) ?_;refine tm (.tup [.agg (cB e.1), .i e.2]) (to (sex rfl rfl) (to (sex rfl rfl) ?_));refine bG rfl (cJ (zs := [.j 0, .j 0]) (aE rfl) zeroValue63 rfl rfl) ?_;rintro _ ⟨j, rfl⟩;refine to (sst 4 rfl rfl sizeOf63 (cB e.1)) (ta (.i e.2) (aB (aC (aC (aA (tm (.i e.2) (to (scm rfl rfl rfl) (aB ?_))))))));refine tih h (fun o h => ?_) (fun o h => ?_)
  ·refine aC (aA (to (cZ (aE rfl) aCq (zs := [.j 0, .j 0]) rfl rfl rfl rfl (es := [.j 0, .j 0]) rfl) ?_));refine to (sst 2 rfl rfl sizeOf63 Z19) (ta Z14 (aB ?_));obtain rfl := sIn h;exact cD ⟨rfl, _, [.box b1 0 (aY c), .box b2 0 [.j a], .box b3 0 Z19, .box f 0 (bQ x8), .box j 0 (cB e.1)], .two (.cell 4 63 rfl (i := 2) rfl xZ (es := Z19) rfl rfl) (.tmp 5 (v := .b true) rfl), .refl _, .same _⟩
  ·refine aU (aC (aA (to (aCm (aE rfl) rfl rfl) ?_)));refine ta (.fn 166 [.bp f 0 0, .bp b2 0 0]) (aB (aC ?_));obtain ⟨m, p, h⟩ := bns h;obtain ⟨g, q, h⟩ := bns h;obtain ⟨l, s, h⟩ := bns h;refine cI mix 15 [4] [(44, .i g), (45, .fn 166 [.bp f 0 0, .bp b2 0 0]), (51, .i l)] ?_ ?_
   ·refine ⟨[(37, 0, .fn 166 [.bp f 0 0, .bp b2 0 0]), (38, 1, .bp b1 0 3), (39, 2, .d (Z30 c)), (40, 3, .bp j 0 0), (41, 4, .i e.1.Low), (42, 5, .cp [.j m]), (43, 6, .i m), (44, 7, .i g), (45, 8, .fn 166 [.bp f 0 0, .bp b2 0 0]), (46, 9, .bp b1 0 3), (47, 10, .d (Z30 c)), (48, 11, .bp j 0 1), (49, 12, .i e.1.High), (50, 13, .cp [.j l]), (51, 14, .i l)], ?_, ?_⟩
    · exact dk [0, 0, 2, 0, 4, 305, 6, 107, 0, 0, 10, 0, 12, 1113, 14] ⟨go (zm (.fn 166 [.bp f 0 0, .bp b2 0 0])),
 go (zf rfl iZ),
 go (zl 0 rfl rfl rfl cC),
 go (zf rfl aEj),
 go (zl 4 rfl rfl rfl aQ),
 go (zix rfl rfl bC.of (aW aF p)),
 go (zlc rfl aQ),
 go fun S hS => cT (aE rfl) (.clo _ _ _ _ call166 (aQd hS rfl)) (wT (ev2 (aX hS rfl) evn)) rfl (.cons (.same _) (.cons (sF 3 rfl rfl (dvc (.same _) (dvc (.same _) (dvc (.same _) dvn)))) (.cons (sF 1 rfl rfl (dvc (.same _) dvn)) .nil))) (aGb _ _ _ q) rfl,
 go (zm (.fn 166 [.bp f 0 0, .bp b2 0 0])),
 go (zf rfl iZ),
 go (zl 0 rfl rfl rfl cC),
 go (zf rfl aOb),
 go (zl 4 rfl rfl rfl aQ),
 go (zix rfl rfl bC.of (aW aF s)),
 go (zlc rfl aQ), trivial⟩
    · exact bT (aH rfl (aH rfl (aH rfl (aK (ae rfl)))))
   ·obtain ⟨k, t, h⟩ := bns h;refine to (cT (aE rfl) (.clo _ _ _ _ call166 rfl) (wT rfl) rfl (.cons (.same _) (.cons (sF 3 rfl rfl (dvc (.same _) (dvc (.same _) (dvc (.same _) dvn)))) (.cons (sF 1 rfl rfl (dvc (.same _) dvn)) .nil))) (aGb _ _ _ t) rfl) ?_;refine to (cZ (aE rfl) aCq (zs := [.j 0, .j 0]) rfl rfl rfl rfl (es := [.j g, .j k]) rfl) ?_;refine to (sst 2 rfl rfl sizeOf63 (cB (cH.mk g k))) (ta Z14 (aB ?_));obtain rfl := sIn h;exact cD ⟨rfl, _, [.box b1 0 (aY c), .box b2 0 [.j a], .box b3 0 (cB (cH.mk g k)), .box f 0 (bQ x8), .box j 0 (cB e.1)], .two (.cell 4 63 rfl (i := 2) rfl xZ (es := (cB (cH.mk g k))) rfl rfl) (.tmp 5 (v := .b true) rfl), .refl _, .same _⟩

theorem aTi (c : bB) (a : Int) {r : cH × Int} (h : vO c a = some r) : Fn Tryz.prog 44 [.agg (aY c), .i a] (.tup [.agg (cB r.1), .i r.2]) := by
 unfold vO at h;refine kR func44 rfl (rs := [.cell 4 63, .tmp 5]) results44 ntmps44 (Nat.le_of_ble_eq_true rfl) ?_;refine aC (aA ?_);refine bG rfl (cV (v := .agg (aY c)) (aE rfl) rfl rfl rfl) ?_;rintro _ ⟨b1, rfl⟩;refine bG rfl (cJ (zs := [.j 0, .j 0]) (aE rfl) zeroValue63 rfl rfl) ?_;rintro _ ⟨b2, rfl⟩;refine ta (.i 0) (aB (aC (aC (aA (to (sla 0 (aY c) rfl rfl fK) ?_)))));obtain ⟨r3, h4, h⟩ := bns h;refine to (scr call41 (yP _ h4)) (ta (.i r3) (aB (aC (aA (tm (.i r3) (to (scm rfl rfl rfl) (aB ?_)))))));refine tih h (fun c5 h => ?_) (fun c5 h => ?_)
 ·refine aC (aA (to (cZ (aE rfl) aCq (zs := [.j 0, .j 0]) rfl rfl rfl rfl (es := [.j 0, .j 0]) rfl) ?_));refine tm (.i r3) (to (sst 1 rfl rfl sizeOf63 Z19) (ta (.i r3) (aB ?_)));obtain rfl := sIn h;exact cD ⟨rfl, _, [.box b1 0 (aY c), .box b2 0 Z19], .two (.cell 4 63 rfl (i := 1) rfl xZ (es := Z19) rfl rfl) (.tmp 5 (v := .i r3) rfl), .refl _, .same _⟩
 ·refine aU (aC (aA (to (sla 0 (aY c) rfl rfl fK) (tm (.i a) ?_))));obtain ⟨r6, h7, h⟩ := bns h;refine to (eO (aE rfl) (.func _ _ call104) rfl rfl (aTj _ _ h7)) ?_;refine tm (.tup [.agg (cB r6.1), .b r6.2]) (to (sex rfl rfl) (to (sex rfl rfl) ?_));refine bG rfl (cJ (zs := [.j 0, .j 0]) (aE rfl) zeroValue63 rfl rfl) ?_;rintro _ ⟨b8, rfl⟩;refine to (sst 2 rfl rfl sizeOf63 (cB r6.1)) (ta (.b r6.2) (aB (aC (aC (aA (tm (.b r6.2) (to (sn rfl) (aB ?_))))))));refine tih h (fun c9 h => ?_) (fun c9 h => ?_)
  ·refine aC (aA (to (cZ (aE rfl) aCq (zs := [.j 0, .j 0]) rfl rfl rfl rfl (es := [.j 0, .j 0]) rfl) ?_));refine to (sst 1 rfl rfl sizeOf63 Z19) (ta (.i 1) (aB ?_));obtain rfl := sIn h;exact cD ⟨rfl, _, [.box b1 0 (aY c), .box b2 0 Z19, .box b8 0 (cB r6.1)], .two (.cell 4 63 rfl (i := 1) rfl xZ (es := Z19) rfl rfl) (.tmp 5 (v := .i 1) rfl), .refl _, .same _⟩
  ·refine aU (aC (aA (to (sla 2 (cB r6.1) rfl rfl xZ) (to (sst 1 rfl rfl sizeOf63 (cB r6.1)) (ta (.i 0) (aB ?_))))));obtain rfl := sIn h;exact cD ⟨rfl, _, [.box b1 0 (aY c), .box b2 0 (cB r6.1), .box b8 0 (cB r6.1)], .two (.cell 4 63 rfl (i := 1) rfl xZ (es := (cB r6.1)) rfl rfl) (.tmp 5 (v := .i 0) rfl), .refl _, .same _⟩

theorem aIe (t : bA) (j : nY) {r : Bool} (h : sN t j = some r) : Fn Tryz.prog 7 [.agg (aT t), .agg (jT j)] (.b r) := by
 unfold sN at h;refine oT [.tmp 4] func7 results7 ntmps7 ?_;refine aC (aA ?_);refine bG rfl (cV (v := .agg (aT t)) (aE rfl) rfl rfl rfl) ?_;rintro _ ⟨b1, rfl⟩;refine bG rfl (cV (v := .agg (jT j)) (aE rfl) rfl rfl rfl) ?_;rintro _ ⟨b2, rfl⟩;refine ta Z2 (aB (aC (aC (aA (to (sla 0 (aT t) rfl rfl eT) ?_)))));obtain ⟨r3, h4, h⟩ := bns h;refine to (scr call8 (aNy _ h4)) (tm (.b r3) ?_);obtain ⟨b5, h6, h⟩ := bns h;refine aV 4 [2, 3] 28 b5 ?_ ?_
 ·refine bch h6 (fun F h6 => ?_) (fun F h6 => ?_)
  ·refine tp F (tp F (tp F (to (spt Z14 F) ?_)));obtain rfl := sIn h6;refine aB (aJ rfl (ae rfl) rfl)
  ·refine tk F (sla 0 (aT t) rfl rfl eT) ?_;obtain ⟨d0, d1, h6⟩ := bns h6;refine tk F (scr call9 (aBw _ d1)) (tk F (scm rfl rfl rfl) (to (spf (.b (!decide (d0 = 0))) F) ?_));obtain rfl := sIn h6;refine aB (aJ rfl (ae rfl) rfl)
 ·refine tm (.b b5) ?_;obtain ⟨b7, h8, h⟩ := bns h;refine aV 5 [2, 3] 34 b7 ?_ ?_
  ·refine bch h8 (fun B h8 => ?_) (fun B h8 => ?_)
   ·refine tp B (tp B (tp B (tp B (to (spt Z14 B) ?_))));obtain rfl := sIn h8;refine aB (aJ rfl (ae rfl) rfl)
   ·refine tkl 1 B rfl rfl sP rfl cC (tk B (sle rfl bC.of) (tk B (scm rfl rfl rfl) (to (spf (.b (decide (10 < (j.Prizes.length : Int)))) B) ?_)));obtain rfl := sIn h8;refine aB (aJ rfl (ae rfl) rfl)
  ·refine aB ?_;refine tih h (fun c9 h => ?_) (fun c9 h => ?_)
   ·refine aC (aA ?_);obtain ⟨d7, d8, h⟩ := bns h;refine to (scr call37 (tI d8)) (ta (.b d7) (aB ?_));obtain rfl := sIn h;refine bK (bE (bH (l := [4]) (ae rfl))) ?_;exact rt
   ·refine aU (aC (aA (to (sla 0 (aT t) rfl rfl eT) (tfl 1 rfl rfl bAv rfl aQ ?_))));obtain ⟨m, d9, h⟩ := bns h;refine to (eO (aE rfl) (.func _ _ call38) rfl rfl (aEg _ _ d9)) ?_;refine tm (.tup [.d (.sl 1 (m.1.map aF)), .i m.2]) (to (sex rfl rfl) (to (sex rfl rfl) (ta (.d (.sl 1 (m.1.map aF))) (ta (.i m.2) (aB (aC (aA (to (sla 0 (aT t) rfl rfl eT) (tfl 1 rfl rfl bAw rfl aQ ?_)))))))));obtain ⟨A, e0, h⟩ := bns h;refine to (eO (aE rfl) (.func _ _ call38) rfl rfl (aEg _ _ e0)) ?_;refine tm (.tup [.d (.sl 1 (A.1.map aF)), .i A.2]) (to (sex rfl rfl) (to (sex rfl rfl) (ta (.d (.sl 1 (A.1.map aF))) (ta (.i A.2) (aB (aC (aC (aA (tm (.i m.2) (to (scm rfl rfl rfl) (tm (.b (!decide (m.2 = 0))) ?_)))))))))));obtain ⟨e1, a3, h⟩ := bns h;refine aV 3 [2, 3, 5, 6, 7, 8] 55 e1 ?_ ?_
    ·refine bch a3 (fun L a3 => ?_) (fun L a3 => ?_)
     ·refine tp L (tp L (to (spt Z14 L) ?_));obtain rfl := sIn a3;refine aB (aJ rfl (ae rfl) rfl)
     ·refine tk L (sm (.i A.2)) (tk L (scm rfl rfl rfl) (to (spf (.b (!decide (A.2 = 0))) L) ?_));obtain rfl := sIn a3;refine aB (aJ rfl (ae rfl) rfl)
    ·refine aB ?_;refine tih h (fun e2 h => ?_) (fun e2 h => ?_)
     ·refine aC (aA (tm (.i m.2) (to (scm rfl rfl rfl) (tm (.b (decide (m.2 = 0))) ?_))));obtain ⟨c0, a4, h⟩ := bns h;refine aV 3 [8] 61 c0 ?_ ?_
      ·refine bch a4 (fun T a4 => ?_) (fun T a4 => ?_)
       ·refine tp T (tp T (to (spt Z14 T) ?_));obtain rfl := sIn a4;refine aB (aJ rfl (ae rfl) rfl)
       ·refine tk T (sm (.i m.2)) (tk T (scm rfl rfl rfl) (to (spf (.b (decide (m.2 = 1))) T) ?_));obtain rfl := sIn a4;refine aB (aJ rfl (ae rfl) rfl)
      ·refine tm (.b c0) ?_;obtain ⟨c1, U, h⟩ := bns h;refine aV 7 [] 69 c1 ?_ ?_
       ·refine bch U (fun H U => ?_) (fun H U => ?_)
        ·refine tk H (sm (.i A.2)) (tk H (scm rfl rfl rfl) (tk H (sm (.b (decide (A.2 = 0)))) ?_));obtain ⟨c2, a5, U⟩ := bns U;refine aV 3 [62] 68 c2 ?_ ?_
         ·refine bch a5 (fun V a5 => ?_) (fun V a5 => ?_)
          ·refine tp V (tp V (tk H (spt Z14 V) ?_));obtain rfl := sIn a5;refine aB (aJ rfl (ae rfl) rfl)
          ·refine tk V (sm (.i A.2)) (tk V (scm rfl rfl rfl) (tk H (spf (.b (decide (A.2 = 1))) V) ?_));obtain rfl := sIn a5;refine aB (aJ rfl (ae rfl) rfl)
         ·refine to (spt (.b c2) H) ?_;obtain rfl := sIn U;refine aB (aJ rfl trivial rfl)
        ·refine tp H (tp H (tp H (tq (tq (tp H (to (spf Z2 H) ?_))))));obtain rfl := sIn U;refine aB (aJ rfl trivial rfl)
       ·refine tm (.b c1) ?_;obtain ⟨c3, W, h⟩ := bns h;refine aV 2 [] 72 c3 ?_ ?_
        ·refine bch W (fun a6 W => ?_) (fun a6 W => ?_)
         ·obtain ⟨e3, e4, W⟩ := bns W;refine tk a6 (scr call37 (tI e4)) (to (spt (.b e3) a6) ?_);obtain rfl := sIn W;refine aB (aJ rfl trivial rfl)
         ·refine tp a6 (to (spf Z2 a6) ?_);obtain rfl := sIn W;refine aB (aJ rfl trivial rfl)
        ·refine ta (.b c3) (aB ?_);obtain rfl := sIn h;refine bK (bE (bH (l := [4]) (ae rfl))) ?_;exact rt
     ·refine aU (aC (aC (aA (tm (.d (.sl 1 (m.1.map aF))) (to (sle rfl bC.of) (tfl 0 rfl rfl dD rfl aQ (to (scm rfl rfl rfl) (tm (.b (!decide ((m.1.length : Int) = t.Size))) ?_))))))));obtain ⟨e5, a7, h⟩ := bns h;refine aV 6 [2, 3, 5, 7] 84 e5 ?_ ?_
      ·refine bch a7 (fun s a7 => ?_) (fun s a7 => ?_)
       ·refine tp s (tp s (tp s (tp s (tp s (to (spt Z14 s) ?_)))));obtain rfl := sIn a7;refine aB (aJ rfl (ae rfl) rfl)
       ·refine tk s (sm (.d (.sl 1 (A.1.map aF)))) (tk s (sle rfl bC.of) (tkl 0 s rfl rfl dD rfl aQ (tk s (scm rfl rfl rfl) (to (spf (.b (!decide ((A.1.length : Int) = t.Size))) s) ?_))));obtain rfl := sIn a7;refine aB (aJ rfl (ae rfl) rfl)
      ·refine aB ?_;refine tih h (fun e6 h => ?_) (fun e6 h => ?_)
       ·refine aC (aA (ta Z2 (aB ?_)));obtain rfl := sIn h;refine bK (bE (bH (l := [4]) (ae rfl))) ?_;exact rt
       ·refine aU (aC ?_);obtain ⟨E, e7, h⟩ := bns h;obtain ⟨a8, e8, h⟩ := bns h;refine iE mix 12 [2, 3, 5] (fun n => [(9, .bp (n 10).b 0 0), (10, .bp (n 11).b 0 0), (89, .agg (aY E)), (94, .agg (aY a8))]) (fun n => [.box b1 0 (aT t), .box b2 0 (jT j), .box (n 10).b 0 (aY Z4), .box (n 11).b 0 (aY Z4)]) ?_ ?_
        ·refine ⟨2, fun n => [(85, 0, .agg (aT t)), (86, 1, .d (.sl 1 (m.1.map aF))), (87, 2, .bp b2 0 2), (88, 3, .d (Z50 j)), (89, 4, .agg (aY E)), (90, 5, .agg (aT t)), (91, 6, .d (.sl 1 (A.1.map aF))), (92, 7, .bp b2 0 2), (93, 8, .d (Z50 j)), (94, 9, .agg (aY a8)), (9, 10, .bp (n 10).b 0 0), (10, 11, .bp (n 11).b 0 0)], fun n => [([], .box b1 0 (aT t)), ([], .box b2 0 (jT j)), ([(10, .box (n 10).b 0 (aY Z4))], nob), ([(11, .box (n 11).b 0 (aY Z4))], nob)], ?_, ?_⟩
         · exact xok [(0, 0), (0, 0), (0, 0), (3, 0), (10204, 0), (0, 0), (0, 0), (0, 0), (8, 0), (60709, 0), (0, 0), (0, 0)] ⟨fun _ _ w _ k => xp w (yla k 0 (aT t) rfl (og k rfl rfl) eT),
 fun _ _ w _ k => xp w (ym k (.d (.sl 1 (m.1.map aF)))),
 fun _ _ w _ k => xp w (yf k rfl sP),
 fun _ _ w _ k => xp w (yl k 1 rfl (og k rfl rfl) rfl cC),
 fun _ _ w _ k => xp w (eO (aE rfl) (.func _ _ call39) (ev2 (aX k rfl) (ev2 (aX k rfl) (ev2 (aX k rfl) evn))) rfl (aEe _ _ _ e7)),
 fun _ _ w _ k => xp w (yla k 0 (aT t) rfl (og k rfl rfl) eT),
 fun _ _ w _ k => xp w (ym k (.d (.sl 1 (A.1.map aF)))),
 fun _ _ w _ k => xp w (yf k rfl sP),
 fun _ _ w _ k => xp w (yl k 1 rfl (og k rfl rfl) rfl cC),
 fun _ _ w _ k => xp w (eO (aE rfl) (.func _ _ call39) (ev2 (aX k rfl) (ev2 (aX k rfl) (ev2 (aX k rfl) evn))) rfl (aEe _ _ _ e8)),
 fun n S hw hi hS => uH (X := n) (p := 2) (v := fun x => .bp x.b 0 0) (mo := fun x => .box x.b 0 (aY Z4)) hS hi rfl rfl (fun _ => rfl) hw (fun _ => rfl) (fun _ => rfl) (fun _ => rfl) (fun _ => ⟨rfl, rfl, .inr rfl, ⟨rfl, rfl, .inr rfl, ⟨rfl, rfl, .inr rfl, ⟨rfl, rfl, .inr rfl, ⟨rfl, rfl, .inr rfl, ⟨rfl, rfl, .inr rfl, ⟨rfl, rfl, .inr rfl, ⟨rfl, rfl, .inr rfl, ⟨rfl, rfl, .inr rfl, ⟨rfl, rfl, .inr rfl, ⟨rfl, rfl, .inl rfl, ⟨rfl, rfl, .inr rfl, trivial⟩⟩⟩⟩⟩⟩⟩⟩⟩⟩⟩⟩) (fun _ => ⟨trivial, rfl, ⟨trivial, rfl, ⟨⟨rfl, .inl rfl, trivial⟩, rfl, ⟨⟨rfl, .inr rfl, trivial⟩, rfl, trivial⟩⟩⟩⟩) (kQ (cJ (zs := [.j 0, .sl 1 Z6, .sl 5 Z22, .sl 1 Z6, .j 0, .sl 3 Z47, .sl 2 Z23, .sl 3 Z24, .sl 4 Z25]) (aE rfl) zeroValue113 rfl rfl) (by rintro _ ⟨w, rfl⟩; exact ⟨⟨w, undef⟩, aO [0, 1, 4, 3] rfl rfl (le_refl _)⟩)),
 fun n S hw hi hS => uH (X := n) (p := 3) (v := fun x => .bp x.b 0 0) (mo := fun x => .box x.b 0 (aY Z4)) hS hi rfl rfl (fun _ => rfl) hw (fun _ => rfl) (fun _ => rfl) (fun _ => rfl) (fun _ => ⟨rfl, rfl, .inr rfl, ⟨rfl, rfl, .inr rfl, ⟨rfl, rfl, .inr rfl, ⟨rfl, rfl, .inr rfl, ⟨rfl, rfl, .inr rfl, ⟨rfl, rfl, .inr rfl, ⟨rfl, rfl, .inr rfl, ⟨rfl, rfl, .inr rfl, ⟨rfl, rfl, .inr rfl, ⟨rfl, rfl, .inr rfl, ⟨rfl, rfl, .inr rfl, ⟨rfl, rfl, .inl rfl, trivial⟩⟩⟩⟩⟩⟩⟩⟩⟩⟩⟩⟩) (fun _ => ⟨trivial, rfl, ⟨trivial, rfl, ⟨⟨rfl, .inr rfl, trivial⟩, rfl, ⟨⟨rfl, .inl rfl, trivial⟩, rfl, trivial⟩⟩⟩⟩) (kQ (cJ (zs := [.j 0, .sl 1 Z6, .sl 5 Z22, .sl 1 Z6, .j 0, .sl 3 Z47, .sl 2 Z23, .sl 3 Z24, .sl 4 Z25]) (aE rfl) zeroValue113 rfl rfl) (by rintro _ ⟨w, rfl⟩; exact ⟨⟨w, undef⟩, aO [0, 1, 2, 4] rfl rfl (le_refl _)⟩)), trivial⟩
         · exact fun n => bT (aH rfl (aH rfl (aH rfl (aH rfl (aK (ae rfl))))))
        ·intro n;refine to (sst 2 rfl rfl sizeOf113 (aY E)) (to (sst 3 rfl rfl sizeOf113 (aY a8)) (aB (aC (aA (to (sla 2 (aY E) rfl rfl fK) ?_)))));obtain ⟨N, e9, h⟩ := bns h;refine to (scr call40 (aKk _ e9)) (ta (.i N) (aB (aC (aC (aA (tm (.i N) (to (scm rfl rfl rfl) (aB ?_))))))));refine tih h (fun f0 h => ?_) (fun f0 h => ?_)
         ·refine aC (aA (tm (.i N) (to (scm rfl rfl rfl) (tm (.b (decide (N = 100))) ?_))));obtain ⟨c4, Y, h⟩ := bns h;refine aV 5 [10, 11] 106 c4 ?_ ?_
          ·refine bch Y (fun I Y => ?_) (fun I Y => ?_)
           ·refine tk I (sla 2 (aY E) rfl rfl fK) ?_;obtain ⟨f1, f2, Y⟩ := bns Y;refine tk I (scr call41 (yP _ f2)) (tk I (sm (.i N)) (tk I (scm rfl rfl rfl) (to (spt (.b (decide (f1 = N))) I) ?_)));obtain rfl := sIn Y;refine aB (aJ rfl (ae rfl) rfl)
           ·refine tp I (tp I (tp I (tp I (to (spf Z2 I) ?_))));obtain rfl := sIn Y;refine aB (aJ rfl (ae rfl) rfl)
          ·refine tm (.b c4) ?_;obtain ⟨c5, Z, h⟩ := bns h;refine aV 5 [] 112 c5 ?_ ?_
           ·refine bch Z (fun J Z => ?_) (fun J Z => ?_)
            ·refine tk J (sla 3 (aY a8) rfl rfl fK) ?_;obtain ⟨f3, f4, Z⟩ := bns Z;refine tk J (scr call41 (yP _ f4)) (tk J (sm (.i N)) (tk J (scm rfl rfl rfl) (to (spt (.b (decide (f3 = N))) J) ?_)));obtain rfl := sIn Z;refine aB (aJ rfl trivial rfl)
            ·refine tp J (tp J (tp J (tp J (to (spf Z2 J) ?_))));obtain rfl := sIn Z;refine aB (aJ rfl trivial rfl)
           ·refine tm (.b c5) ?_;obtain ⟨c6, a0, h⟩ := bns h;refine aV 2 [] 115 c6 ?_ ?_
            ·refine bch a0 (fun a9 a0 => ?_) (fun a9 a0 => ?_)
             ·obtain ⟨f5, f6, a0⟩ := bns a0;refine tk a9 (scr call37 (tI f6)) (to (spt (.b f5) a9) ?_);obtain rfl := sIn a0;refine aB (aJ rfl trivial rfl)
             ·refine tp a9 (to (spf Z2 a9) ?_);obtain rfl := sIn a0;refine aB (aJ rfl trivial rfl)
            ·refine ta (.b c6) (aB ?_);obtain rfl := sIn h;refine bK (bE (bH (l := [4]) (ae rfl))) ?_;exact rt
         ·refine aU (aC (aA (to (sla 2 (aY E) rfl rfl fK) ?_)));obtain ⟨O, f7, h⟩ := bns h;refine to (scr call42 (aEv _ f7)) (tm (.tup [.i O.1, .i O.2]) (to (sex rfl rfl) (to (sex rfl rfl) (ta (.i O.1) (ta (.i O.2) (aB (aC (aA (to (sla 3 (aY a8) rfl rfl fK) ?_)))))))));obtain ⟨P, f8, h⟩ := bns h;refine to (scr call42 (aEv _ f8)) (tm (.tup [.i P.1, .i P.2]) (to (sex rfl rfl) (to (sex rfl rfl) (ta (.i P.1) (ta (.i P.2) (aB (aC (aC (aA (tm (.i O.2) (to (scm rfl rfl rfl) (tm (.b (!decide (O.2 = 0))) ?_))))))))))));obtain ⟨c7, b0, h⟩ := bns h;refine aV 3 [2, 3, 5, 9, 12, 14] 131 c7 ?_ ?_
          ·refine bch b0 (fun M b0 => ?_) (fun M b0 => ?_)
           ·refine tp M (tp M (to (spt Z14 M) ?_));obtain rfl := sIn b0;refine aB (aJ rfl (ae rfl) rfl)
           ·refine tk M (sm (.i P.2)) (tk M (scm rfl rfl rfl) (to (spf (.b (!decide (P.2 = 0))) M) ?_));obtain rfl := sIn b0;refine aB (aJ rfl (ae rfl) rfl)
          ·refine tm (.b c7) ?_;obtain ⟨f9, b3, h⟩ := bns h;refine aV 4 [2, 3, 5, 9] 136 f9 ?_ ?_
           ·refine bch b3 (fun G b3 => ?_) (fun G b3 => ?_)
            ·refine tp G (tp G (tp G (to (spt Z14 G) ?_)));obtain rfl := sIn b3;refine aB (aJ rfl (ae rfl) rfl)
            ·refine tk G (sm (.i O.1)) (tk G (sm (.i P.1)) (tk G (scm rfl rfl rfl) (to (spf (.b (!decide (O.1 = P.1))) G) ?_)));obtain rfl := sIn b3;refine aB (aJ rfl (ae rfl) rfl)
           ·refine aB ?_;refine tih h (fun g0 h => ?_) (fun g0 h => ?_)
            ·refine aC (aA (ta Z2 (aB ?_)));obtain rfl := sIn h;refine bK (bE (bH (l := [4]) (ae rfl))) ?_;exact rt
            ·refine aU (aC (aA (to (sf rfl jU) (to (sla 2 (bI E.Tree) rfl rfl kD) (to (sf rfl jU) (tfl 2 rfl rfl iN rfl aQ (to (sar rfl rfl rfl) ?_)))))));obtain ⟨Q, g1, h⟩ := bns h;refine to (aVm (aE rfl) (.func _ _ call43) rfl rfl (.cons (.same _) (.cons (.d (.nil 5)) (.cons (.same _) (.cons (.same _) .nil)))) (aTa _ _ _ _ g1)) ?_;refine tm (.tup [.d (.sl 1 (Q.1.map aF)), .i Q.2]) (to (sex rfl rfl) (to (sex rfl rfl) (ta (.d (.sl 1 (Q.1.map aF))) (ta (.i Q.2) (aB (aC (aC (aA (tm (.i Q.2) (to (scm rfl rfl rfl) (tm (.b (!decide (Q.2 = 0))) ?_)))))))))));obtain ⟨g2, b4, h⟩ := bns h;refine aV 7 [3, 5, 9] 156 g2 ?_ ?_
             ·refine bch b4 (fun o b4 => ?_) (fun o b4 => ?_)
              ·refine tp o (tp o (tp o (tp o (tp o (tp o (to (spt Z14 o) ?_))))));obtain rfl := sIn b4;refine aB (aJ rfl (ae rfl) rfl)
              ·refine tk o (sm (.d (.sl 1 (Q.1.map aF)))) (tk o (sle rfl bC.of) (tkl 0 o rfl rfl dN rfl fC (tk o (sle rfl fN.of) (tk o (scm rfl rfl rfl) (to (spf (.b (!decide ((Q.1.length : Int) = (t.Persons.length : Int)))) o) ?_)))));obtain rfl := sIn b4;refine aB (aJ rfl (ae rfl) rfl)
             ·refine aB ?_;refine tih h (fun g3 h => ?_) (fun g3 h => ?_)
              ·refine aC (aA (ta Z2 (aB ?_)));obtain rfl := sIn h;refine bK (bE (bH (l := [4]) (ae rfl))) ?_;exact rt
              ·refine aU (aC (aC (aA (ta (.i 0) (aB (bD ?_))))));refine bP (S := Int) [3, 5, 9] (fun b9 => [(18, .i b9)]) (fun b9 => [.box b2 0 (jT j), .box (n 10).b 0 (aY E)]) (fun k b9 => eC m.1 j E k b9) (fun _ => rfl) (0) h (aO [1, 2] rfl rfl (aH rfl (aK (ae rfl)))) ?_;rintro i0 e h;simp only [eC] at h;refine aC (aC (aA (tm (.i e) (tm (.d (.sl 1 (m.1.map aF))) (to (sle rfl bC.of) (to (scm rfl rfl rfl) (aB ?_)))))));refine tih h (fun g4 h => ?_) (fun g4 h => ?_)
               ·refine aU (aC (bD (aC (aC (aA (tm (.d (.sl 1 (m.1.map aF))) (tm (.i e) ?_)))))));obtain ⟨i1, g5, h⟩ := bns h;refine to (six rfl rfl bC.of (aW aF g5)) (to (slc rfl aQ) (to (scm rfl rfl rfl) (aB ?_)));refine tih h (fun g6 h => ?_) (fun g6 h => ?_)
                ·refine bO ?_;refine .inl ⟨rfl, ?_⟩;refine aA (tm (.i e) (to (sar rfl rfl rfl) (ta (.i (w64 (e + 1))) (aB ?_))));exact ⟨(w64 (e + 1)), h, aO [0, 1] rfl rfl (aH rfl (aK (ae rfl)))⟩
                ·refine aU (aC ?_);obtain ⟨c8, g7, h⟩ := bns h;obtain ⟨a, g8, h⟩ := bns h;refine iE mix 11 [3, 5, 9, 18] (fun q => [(19, .bp (q 9).b 0 0), (176, .i a.2)]) (fun q => [.box b2 0 (jT j), .box (n 10).b 0 (aY E), .box (q 9).b 0 (cB a.1)]) ?_ ?_
                 ·refine ⟨1, fun q => [(169, 0, .agg (aY E)), (170, 1, .d (.sl 1 (m.1.map aF))), (171, 2, .i e), (172, 3, .cp [.j c8]), (173, 4, .i c8), (174, 5, .tup [.agg (cB a.1), .i a.2]), (168, 6, .tup [.agg (cB a.1), .i a.2]), (175, 7, .agg (cB a.1)), (176, 8, .i a.2), (19, 9, .bp (q 9).b 0 0)], fun q => [([], .box b2 0 (jT j)), ([], .box (n 10).b 0 (aY E)), ([(10, .box (q 9).b 0 (cB a.1)), (9, .box (q 9).b 0 Z19)], nob)], ?_, ?_⟩
                  · exact xok [(0, 11), (0, 11), (0, 11), (203, 11), (4, 11), (105, 11), (6, 11), (7, 11), (7, 0), (0, 11), (810, 0)] ⟨fun _ _ w _ k => xp w (yla k 1 (aY E) rfl (og k rfl rfl) fK),
 fun _ _ w _ k => xp w (ym k (.d (.sl 1 (m.1.map aF)))),
 fun _ _ w _ k => xp w (ym k (.i e)),
 fun _ _ w _ k => xp w (yix k rfl rfl bC.of (aW aF g7)),
 fun _ _ w _ k => xp w (ylc k rfl aQ),
 fun _ _ w _ k => xp w (eO (aE rfl) (.func _ _ call44) (ev2 (aX k rfl) (ev2 (aX k rfl) evn)) rfl (aTi _ _ g8)),
 fun _ _ w _ k => xp w (ym k (.tup [.agg (cB a.1), .i a.2])),
 fun _ _ w _ k => xp w (yex k rfl rfl),
 fun _ _ w _ k => xp w (yex k rfl rfl),
 fun q S hw hi hS => uH (X := q) (p := 2) (v := fun x => .bp x.b 0 0) (mo := fun x => .box x.b 0 Z19) hS hi rfl rfl (fun _ => rfl) hw (fun _ => rfl) (fun _ => rfl) (fun _ => rfl) (fun _ => ⟨rfl, rfl, .inr rfl, ⟨rfl, rfl, .inr rfl, ⟨rfl, rfl, .inr rfl, ⟨rfl, rfl, .inr rfl, ⟨rfl, rfl, .inr rfl, ⟨rfl, rfl, .inr rfl, ⟨rfl, rfl, .inr rfl, ⟨rfl, rfl, .inr rfl, ⟨rfl, rfl, .inr rfl, ⟨rfl, rfl, .inl rfl, trivial⟩⟩⟩⟩⟩⟩⟩⟩⟩⟩) (fun _ => ⟨trivial, rfl, ⟨trivial, rfl, ⟨⟨rfl, .inl rfl, ⟨rfl, .inl rfl, trivial⟩⟩, rfl, trivial⟩⟩⟩) (kQ (cJ (zs := [.j 0, .j 0]) (aE rfl) zeroValue63 rfl rfl) (by rintro _ ⟨w, rfl⟩; exact ⟨⟨w, undef⟩, aO [0, 1, 3] rfl rfl (le_refl _)⟩)),
 fun _ _ _ _ k => xs 2 k rfl rfl (sW (i := 2) (aX k rfl) (og k rfl rfl) (aX k rfl) rfl rfl sizeOf63 rfl (aE rfl) (Nat.le_of_ble_eq_true rfl) (ds' := (cB a.1)) rfl), trivial⟩
                  · exact fun q => bT (aH rfl (aH rfl (aK (ae rfl))))
                 ·intro q;refine ta (.i a.2) (aB (aC (aA (tfl 0 rfl rfl sP rfl cC ?_))));obtain ⟨y, g9, h⟩ := bns h;refine to (six rfl rfl bC.of (aW aF g9)) (to (slc rfl aQ) (ta (.i y) (aB (aC (aC (aA (tm (.d (.sl 1 (m.1.map aF))) (tm (.i e) (to (aQo (aE rfl) rfl rfl (.inr (.inr ⟨rfl, rfl⟩))) ?_)))))))));obtain ⟨i2, h0, h⟩ := bns h;refine to (six rfl rfl bC.of (aW aF h0)) (to (slc rfl aQ) (to (scm rfl rfl rfl) (aB ?_)));refine tih h (fun h1 h => ?_) (fun h1 h => ?_)
                  ·refine aA (tfl 0 rfl rfl sP rfl cC ?_);obtain ⟨z, h2, h⟩ := bns h;refine to (six rfl rfl bC.of (aW aF h2)) (to (slc rfl aQ) (ta (.i z) (aB (aC ?_))));obtain ⟨i3, b6, h⟩ := bns h;obtain ⟨h3, K, h⟩ := bns h;refine cI mix 21 [3, 5, 9, 18] [(211, .b h3)] ?_ ?_
                   ·refine bch b6 (fun u b6 => ?_) (fun u b6 => ?_)
                    ·obtain rfl := sIn b6;have f : true = true := rfl;have K := zH f K;obtain rfl := sIn K;refine ⟨[(191, 0, .i a.2), (192, 1, .b (!decide (a.2 = 0))), (193, 2, .b (!decide (a.2 = 0))), (194, 3, .tup []), (195, 4, .tup []), (196, 5, .tup []), (197, 6, .tup []), (198, 7, .b true), (199, 8, .b (true)), (200, 9, .tup []), (201, 10, .tup []), (202, 11, .tup []), (203, 12, .tup []), (204, 13, .tup []), (205, 14, .tup []), (206, 15, .tup []), (207, 16, .tup []), (208, 17, .tup []), (209, 18, .tup []), (210, 19, .tup []), (211, 20, .b true)], ?_, ?_⟩
                     · exact dk [0, 1, 2, 3, 304, 3, 30506, 307, 8, 9, 910, 9, 912, 9, 914, 915, 916, 91317, 918, 91119, 920] ⟨go (zm (.i a.2)),
 go (zcm rfl rfl rfl),
 go (zm (.b (!decide (a.2 = 0)))),
 gp u,
 gp u,
 gp u,
 gp u,
 go (zpt Z14 u),
 go (zm (.b (true))),
 gp f,
 gp f,
 gp f,
 gp f,
 gp f,
 gp f,
 gp f,
 gp f,
 gp f,
 gp f,
 gp f,
 go (zpt Z14 f), trivial⟩
                     · exact bT (aH rfl (aK (ae rfl)))
                    ·obtain rfl := sIn b6;refine bch K (fun f K => ?_) (fun f K => ?_)
                     ·obtain rfl := sIn K;refine ⟨[(191, 0, .i a.2), (192, 1, .b (!decide (a.2 = 0))), (193, 2, .b (!decide (a.2 = 0))), (194, 3, .bp (q 9).b 0 0), (195, 4, .i a.1.Low), (196, 5, .i z), (197, 6, .b (!decide (a.1.Low = z))), (198, 7, .b (!decide (a.1.Low = z))), (199, 8, .b (!decide (a.1.Low = z))), (200, 9, .tup []), (201, 10, .tup []), (202, 11, .tup []), (203, 12, .tup []), (204, 13, .tup []), (205, 14, .tup []), (206, 15, .tup []), (207, 16, .tup []), (208, 17, .tup []), (209, 18, .tup []), (210, 19, .tup []), (211, 20, .b true)], ?_, ?_⟩
                      · exact dk [0, 1, 2, 3, 304, 3, 30506, 307, 8, 9, 910, 9, 912, 9, 914, 915, 916, 91317, 918, 91119, 920] ⟨go (zm (.i a.2)),
 go (zcm rfl rfl rfl),
 go (zm (.b (!decide (a.2 = 0)))),
 gt u (zf rfl aEj),
 gt u (zl 2 rfl rfl rfl aQ),
 gt u (zm (.i z)),
 gt u (zcm rfl rfl rfl),
 go (zpf (.b (!decide (a.1.Low = z))) u),
 go (zm (.b (!decide (a.1.Low = z)))),
 gp f,
 gp f,
 gp f,
 gp f,
 gp f,
 gp f,
 gp f,
 gp f,
 gp f,
 gp f,
 gp f,
 go (zpt Z14 f), trivial⟩
                      · exact bT (aH rfl (aK (ae rfl)))
                     ·obtain ⟨b8, h5, K⟩ := bns K;obtain rfl := sIn K;refine ⟨[(191, 0, .i a.2), (192, 1, .b (!decide (a.2 = 0))), (193, 2, .b (!decide (a.2 = 0))), (194, 3, .bp (q 9).b 0 0), (195, 4, .i a.1.Low), (196, 5, .i z), (197, 6, .b (!decide (a.1.Low = z))), (198, 7, .b (!decide (a.1.Low = z))), (199, 8, .b (!decide (a.1.Low = z))), (200, 9, .bp (q 9).b 0 1), (201, 10, .i a.1.High), (202, 11, .bp b2 0 2), (203, 12, .d (Z50 j)), (204, 13, .bp b2 0 2), (205, 14, .d (Z50 j)), (206, 15, .i (j.Prizes.length : Int)), (207, 16, .i (w64 ((j.Prizes.length : Int) - 1))), (208, 17, .cp [.j b8]), (209, 18, .i b8), (210, 19, .b (!decide (a.1.High = b8))), (211, 20, .b (!decide (a.1.High = b8)))], ?_, ?_⟩
                      · exact dk [0, 1, 2, 3, 304, 3, 30506, 307, 8, 9, 910, 9, 912, 9, 914, 915, 916, 91317, 918, 91119, 920] ⟨go (zm (.i a.2)),
 go (zcm rfl rfl rfl),
 go (zm (.b (!decide (a.2 = 0)))),
 gt u (zf rfl aEj),
 gt u (zl 2 rfl rfl rfl aQ),
 gt u (zm (.i z)),
 gt u (zcm rfl rfl rfl),
 go (zpf (.b (!decide (a.1.Low = z))) u),
 go (zm (.b (!decide (a.1.Low = z)))),
 gt f (zf rfl aOb),
 gt f (zl 2 rfl rfl rfl aQ),
 gt f (zf rfl sP),
 gt f (zl 0 rfl rfl rfl cC),
 gt f (zf rfl sP),
 gt f (zl 0 rfl rfl rfl cC),
 gt f (zle rfl bC.of),
 gt f (zar rfl rfl rfl),
 gt f (zix rfl rfl bC.of (aW aF h5)),
 gt f (zlc rfl aQ),
 gt f (zcm rfl rfl rfl),
 go (zpf (.b (!decide (a.1.High = b8))) f), trivial⟩
                      · exact bT (aH rfl (aK (ae rfl)))
                   ·refine aB ?_;refine tih h (fun h7 h => ?_) (fun h7 h => ?_)
                    ·refine aC (aA (ta Z2 (aB ?_)));obtain rfl := sIn h;refine bK (bE (bH (l := [4]) (ae rfl))) ?_;exact rt
                    ·refine cA ?_;refine aA (tm (.i e) (to (sar rfl rfl rfl) (ta (.i (w64 (e + 1))) (aB ?_))));exact ⟨(w64 (e + 1)), h, aO [0, 1] rfl rfl (aH rfl (aK (ae rfl)))⟩
                  ·refine aU (aC ?_);obtain ⟨h9, a1, h⟩ := bns h;obtain ⟨d2, C, h⟩ := bns h;refine cI mix 21 [3, 5, 9, 18] [(211, .b d2)] ?_ ?_
                   ·refine bch a1 (fun g a1 => ?_) (fun g a1 => ?_)
                    ·obtain rfl := sIn a1;have c : true = true := rfl;have C := zH c C;obtain rfl := sIn C;refine ⟨[(191, 0, .i a.2), (192, 1, .b (!decide (a.2 = 0))), (193, 2, .b (!decide (a.2 = 0))), (194, 3, .tup []), (195, 4, .tup []), (196, 5, .tup []), (197, 6, .tup []), (198, 7, .b true), (199, 8, .b (true)), (200, 9, .tup []), (201, 10, .tup []), (202, 11, .tup []), (203, 12, .tup []), (204, 13, .tup []), (205, 14, .tup []), (206, 15, .tup []), (207, 16, .tup []), (208, 17, .tup []), (209, 18, .tup []), (210, 19, .tup []), (211, 20, .b true)], ?_, ?_⟩
                     · exact dk [0, 1, 2, 3, 304, 3, 30506, 307, 8, 9, 910, 9, 912, 9, 914, 915, 916, 91317, 918, 91119, 920] ⟨go (zm (.i a.2)),
 go (zcm rfl rfl rfl),
 go (zm (.b (!decide (a.2 = 0)))),
 gp g,
 gp g,
 gp g,
 gp g,
 go (zpt Z14 g),
 go (zm (.b (true))),
 gp c,
 gp c,
 gp c,
 gp c,
 gp c,
 gp c,
 gp c,
 gp c,
 gp c,
 gp c,
 gp c,
 go (zpt Z14 c), trivial⟩
                     · exact bT (aH rfl (aK (ae rfl)))
                    ·obtain rfl := sIn a1;refine bch C (fun c C => ?_) (fun c C => ?_)
                     ·obtain rfl := sIn C;refine ⟨[(191, 0, .i a.2), (192, 1, .b (!decide (a.2 = 0))), (193, 2, .b (!decide (a.2 = 0))), (194, 3, .bp (q 9).b 0 0), (195, 4, .i a.1.Low), (196, 5, .i y), (197, 6, .b (!decide (a.1.Low = y))), (198, 7, .b (!decide (a.1.Low = y))), (199, 8, .b (!decide (a.1.Low = y))), (200, 9, .tup []), (201, 10, .tup []), (202, 11, .tup []), (203, 12, .tup []), (204, 13, .tup []), (205, 14, .tup []), (206, 15, .tup []), (207, 16, .tup []), (208, 17, .tup []), (209, 18, .tup []), (210, 19, .tup []), (211, 20, .b true)], ?_, ?_⟩
                      · exact dk [0, 1, 2, 3, 304, 3, 30506, 307, 8, 9, 910, 9, 912, 9, 914, 915, 916, 91317, 918, 91119, 920] ⟨go (zm (.i a.2)),
 go (zcm rfl rfl rfl),
 go (zm (.b (!decide (a.2 = 0)))),
 gt g (zf rfl aEj),
 gt g (zl 2 rfl rfl rfl aQ),
 gt g (zm (.i y)),
 gt g (zcm rfl rfl rfl),
 go (zpf (.b (!decide (a.1.Low = y))) g),
 go (zm (.b (!decide (a.1.Low = y)))),
 gp c,
 gp c,
 gp c,
 gp c,
 gp c,
 gp c,
 gp c,
 gp c,
 gp c,
 gp c,
 gp c,
 go (zpt Z14 c), trivial⟩
                      · exact bT (aH rfl (aK (ae rfl)))
                     ·obtain ⟨a2, d3, C⟩ := bns C;obtain rfl := sIn C;refine ⟨[(191, 0, .i a.2), (192, 1, .b (!decide (a.2 = 0))), (193, 2, .b (!decide (a.2 = 0))), (194, 3, .bp (q 9).b 0 0), (195, 4, .i a.1.Low), (196, 5, .i y), (197, 6, .b (!decide (a.1.Low = y))), (198, 7, .b (!decide (a.1.Low = y))), (199, 8, .b (!decide (a.1.Low = y))), (200, 9, .bp (q 9).b 0 1), (201, 10, .i a.1.High), (202, 11, .bp b2 0 2), (203, 12, .d (Z50 j)), (204, 13, .bp b2 0 2), (205, 14, .d (Z50 j)), (206, 15, .i (j.Prizes.length : Int)), (207, 16, .i (w64 ((j.Prizes.length : Int) - 1))), (208, 17, .cp [.j a2]), (209, 18, .i a2), (210, 19, .b (!decide (a.1.High = a2))), (211, 20, .b (!decide (a.1.High = a2)))], ?_, ?_⟩
                      · exact dk [0, 1, 2, 3, 304, 3, 30506, 307, 8, 9, 910, 9, 912, 9, 914, 915, 916, 91317, 918, 91119, 920] ⟨go (zm (.i a.2)),
 go (zcm rfl rfl rfl),
 go (zm (.b (!decide (a.2 = 0)))),
 gt g (zf rfl aEj),
 gt g (zl 2 rfl rfl rfl aQ),
 gt g (zm (.i y)),
 gt g (zcm rfl rfl rfl),
 go (zpf (.b (!decide (a.1.Low = y))) g),
 go (zm (.b (!decide (a.1.Low = y)))),
 gt c (zf rfl aOb),
 gt c (zl 2 rfl rfl rfl aQ),
 gt c (zf rfl sP),
 gt c (zl 0 rfl rfl rfl cC),
 gt c (zf rfl sP),
 gt c (zl 0 rfl rfl rfl cC),
 gt c (zle rfl bC.of),
 gt c (zar rfl rfl rfl),
 gt c (zix rfl rfl bC.of (aW aF d3)),
 gt c (zlc rfl aQ),
 gt c (zcm rfl rfl rfl),
 go (zpf (.b (!decide (a.1.High = a2))) c), trivial⟩
                      · exact bT (aH rfl (aK (ae rfl)))
                   ·refine aB ?_;refine tih h (fun d4 h => ?_) (fun d4 h => ?_)
                    ·refine aC (aA (ta Z2 (aB ?_)));obtain rfl := sIn h;refine bK (bE (bH (l := [4]) (ae rfl))) ?_;exact rt
                    ·refine cA ?_;refine aA (tm (.i e) (to (sar rfl rfl rfl) (ta (.i (w64 (e + 1))) (aB ?_))));exact ⟨(w64 (e + 1)), h, aO [0, 1] rfl rfl (aH rfl (aK (ae rfl)))⟩
               ·refine bO ?_;refine .inl ⟨rfl, ?_⟩;simp only [tV] at h;refine aC (aA ?_);obtain ⟨d5, d6, h⟩ := bns h;refine to (scr call37 (tI d6)) (ta (.b d5) (aB ?_));obtain rfl := sIn h;refine bK (bE (bH (l := [4]) (ae rfl))) ?_;exact rt

end Go.Am
