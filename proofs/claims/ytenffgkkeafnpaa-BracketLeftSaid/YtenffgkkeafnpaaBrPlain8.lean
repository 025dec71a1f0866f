/- Layer 7, plain: the program's wins and agree. -/
import Derived.Test.YtenffgkkeafnpaaBrPlain7
namespace Go.Am

theorem rB (a r : Nat) : (a : Int).fdiv (2 ^ (r + 1)) = ((a / 2 ^ (r + 1) : Nat) : Int) := by
  have e : (2 : Int) ^ (r + 1) = ((2 ^ (r + 1) : Nat) : Int) := by simp
  rw [e]; exact (Int.ofNat_fdiv a (2 ^ (r + 1))).symm
theorem aAv {a r : Nat} (hr : r ≤ 5) : jX (r : Int) (a : Int) = some (cell a r) := by
  have hw : w64 ((r : Int) + 1) = ((r + 1 : Nat) : Int) := cI (by omega)
  have hch : chk (decide (0 ≤ ((r + 1 : Nat) : Int))) = some () := by unfold chk; rw [decide_eq_true (by omega)]; rfl
  have hm : min ((r + 1 : Nat) : Int).toNat 64 = r + 1 := by omega
  unfold jX
  rw [hw, hch, Option.bind_some, hm, rB]
  rfl

theorem aCq {t : aO} {d : List Int} {P : kN} {a r : Nat} (ha : a < d.length) (hr : r ≤ 5) {won : List (aB × Int)} (h : WonIs won P) :
    ∃ b w, jE t d won a r = some (b, w) ∧ (b = true → nI P (clm d a r) ∧ WonIs w (fun m v => P m v ∨ clm d a r m v)) ∧ (b = false → ¬ nI P (clm d a r)) := by
  have key : ∀ n q k won', q + n = r + 1 → n < k → WonIs won' (fun m v => P m v ∨ (v = d.getD a 0 ∧ ∃ p, p < q ∧ m = cell a p)) → (∀ p, p < q → ∀ v, P (cell a p) v → v = d.getD a 0) →
      ∃ b w, gA a ((r + 1 : Nat) : Int) d t k q won' = some (b, w) ∧ (b = true → nI P (clm d a r) ∧ WonIs w (fun m v => P m v ∨ clm d a r m v)) ∧ (b = false → ¬ nI P (clm d a r)) := by
    intro n
    induction n with
    | zero =>
      intro q k won' hq hk hW hc
      have : q = r + 1 := by omega
      subst this
      cases k with
      | zero => omega
      | succ k =>
        have hlt : decide (((r + 1 : Nat) : Int) < ((r + 1 : Nat) : Int)) = false := decide_eq_false (by omega)
        simp only [gA, hlt, cond_false, mZ]
        refine ⟨true, won', rfl, fun _ => ⟨?_, hW.ext fun m v => ?_⟩, fun e => by cases e⟩
        · rintro m v w hp ⟨rfl, p, hp', rfl⟩
          exact hc p (by omega) v hp
        · constructor
          · rintro (h | ⟨e, p, hp, e2⟩)
            · exact .inl h
            · exact .inr ⟨e, p, by omega, e2⟩
          · rintro (h | ⟨e, p, hp, e2⟩)
            · exact .inl h
            · exact .inr ⟨e, p, by omega, e2⟩
    | succ n ih =>
      intro q k won' hq hk hW hc
      cases k with
      | zero => omega
      | succ k =>
        have hlt : decide ((q : Int) < ((r + 1 : Nat) : Int)) = true := decide_eq_true (by omega)
        simp only [gA, hlt, cond_true, aAv (show q ≤ 5 by omega), Option.bind_some, cK ha, cI (show q < 9223372036854775807 by omega)]
        rw [← bP ha 0]
        by_cases hex : ∃ v, P (cell a q) v ∧ v ≠ d.getD a 0
        · obtain ⟨v, hv, hne⟩ := hex
          have hh : cL (cell a q) won' = true := (hW.has _).2 ⟨v, .inl hv⟩
          have hg : cF (cell a q) 0 won' = v := hW.get (.inl hv)
          simp only [hh, hg, cond_true, hne, decide_false, Bool.not_false, Option.bind_some]
          exact ⟨false, won', rfl, fun e => (by cases e), fun _ hco => hne (hco _ v _ hv ⟨rfl, q, by omega, rfl⟩)⟩
        · have hall : ∀ v, P (cell a q) v → v = d.getD a 0 := fun v hv => Classical.byContradiction fun e => hex ⟨v, hv, e⟩
          have hall' : ∀ v, (P (cell a q) v ∨ (v = d.getD a 0 ∧ ∃ p, p < q ∧ cell a q = cell a p)) → v = d.getD a 0 := by
            rintro v (h | ⟨h, _⟩)
            · exact hall v h
            · exact h
          have hb : ((bif cL (cell a q) won' then some (!decide (cF (cell a q) 0 won' = d.getD a 0)) else some false) : Option Bool) = some false := by
            cases hh : cL (cell a q) won' with
            | false => rfl
            | true =>
              obtain ⟨v, hv⟩ := (hW.has _).1 hh
              rw [hW.get hv, hall' v hv]
              simp
          simp only [hb, Option.bind_some, cond_false]
          refine ih (q + 1) k _ (by omega) (by omega) ((hW.set hall').ext fun m v => ?_) fun p hp v hv => ?_
          · constructor
            · rintro ((h | ⟨e, p, hp, e2⟩) | ⟨e1, e2⟩)
              · exact .inl h
              · exact .inr ⟨e, p, by omega, e2⟩
              · exact .inr ⟨e2, q, by omega, e1⟩
            · rintro (h | ⟨e, p, hp, e2⟩)
              · exact .inl (.inl h)
              · by_cases hpq : p = q
                · subst hpq; exact .inr ⟨e2, e⟩
                · exact .inl (.inr ⟨e, p, by omega, e2⟩)
          · by_cases hpq : p = q
            · subst hpq; exact hall v hv
            · exact hc p (by omega) v hv
  have := key (r + 1) 0 BIG won (by omega) (cW (by omega)) (h.ext fun m v => by simp) (fun p hp => by omega)
  unfold jE
  rw [cI (show r < 9223372036854775807 by omega)]
  exact this

theorem aAt {α : Type} {l : List α} (hnd : l.Nodup) {j : Nat} (hj : j < l.length) {x : α} : x ∈ l.eraseIdx j ↔ x ∈ l ∧ x ≠ l[j] := by
  rw [List.mem_eraseIdx_iff_getElem]
  constructor
  · rintro ⟨i, hi, hne, rfl⟩; exact ⟨List.getElem_mem hi, fun e => hne ((List.getElem_inj hnd).1 e)⟩
  · rintro ⟨hm, hne⟩
    obtain ⟨i, hi, rfl⟩ := List.mem_iff_getElem.1 hm
    exact ⟨i, hi, fun e => hne (by subst e; rfl), rfl⟩
/-- What is asked of a valid result. -/
structure ROK (t : aO) (s : aE) : Prop where
  p0 : 0 ≤ s.Player
  r0 : 0 ≤ s.Round
  r1 : s.Round < t.Rounds
theorem zY {t : aO} {s : aE} (h : eL t s = true) (hk : s.Kind ≠ 5) : ROK t s := by
  simp only [eL, hk, if_false, Bool.and_eq_true, iV, fU] at h
  exact ⟨h.1.1, h.2.1.1.2.1.1, by omega⟩

section
variable {t : aO} (ht : TreeOK t) {d : List Int} (hD : DOK t d) {l : List aE} (hR : ∀ s, Res l s → ROK t s)
include ht hD

omit ht in
theorem aIn {s : aE} (hr : ROK t s) {a : Nat} (ha : a < d.length) (he : d.getD a 0 = s.Player) : gs d s ↔ cell a s.Round.toNat = ⟨s.Round, s.Place⟩ := by
  have hp := hr.p0
  constructor
  · rintro ⟨b, hb, e, h⟩
    have := hD.uni ha hb (he.trans e.symm) (by omega)
    subst this; exact h
  · exact fun h => ⟨a, ha, he, h⟩

omit ht in
theorem xV {s : aE} (hr : ROK t s) {a : Nat} (ha : a < d.length) (he : d.getD a 0 = s.Player) (m : aB) (v : Int) : yH d (fun x => x = s) m v ↔ clm d a s.Round.toNat m v := by
  have hp := hr.p0
  constructor
  · rintro ⟨x, rfl, b, hb, e, h⟩
    have := hD.uni ha hb (he.trans e.symm) (by omega)
    subst this; exact h
  · exact fun h => ⟨s, rfl, a, ha, he, h⟩

include hR in
theorem aFb {Q : (Option aW × Bool) → Prop} {about : List (aB × aE)} (ham : ∀ m s, (m, s) ∈ about ↔ (s ∈ l ∧ s.Kind ≠ 5 ∧ m = ⟨s.Round, s.Place⟩)) (hN : yA l)
    (hok : OKF d l → ∀ won, WonIs won (eA d (Res l)) → Q (some ⟨t, d, won⟩, true)) (hbad : ¬ OKF d l → Q (none, false)) :
    ∀ n k left won, left.length = n → n < k → left.Nodup → (∀ p ∈ left, p ∈ about) → WonIs won (eA d (fun s => Res l s ∧ ((⟨s.Round, s.Place⟩ : aB), s) ∉ left)) → (∀ s, Res l s → ((⟨s.Round, s.Place⟩ : aB), s) ∉ left → gs d s) →
    iH Q d t about k won left := by
  have h5 := ht.r5
  have h32 := ht.len32
  have hl := hD.len
  intro n
  induction n with
  | zero =>
    intro k left won hn hk hnd hsub hW hg
    have : left = [] := List.length_eq_zero_iff.1 hn
    subst this
    cases k with
    | zero => omega
    | succ k =>
      simp only [iH, pK]
      have hW' : WonIs won (eA d (Res l)) := hW.ext fun m v => by simp [eA, yH]
      exact ⟨fun _ => hok ⟨hN, fun x hx => hg x hx (by simp), hW'.func⟩ won hW', fun j p hj => by simp at hj⟩
  | succ n ih =>
    intro k left won hn hk hnd hsub hW hg
    cases k with
    | zero => omega
    | succ k =>
      simp only [iH]
      refine ⟨fun e => by subst e; simp at hn, fun j p hj => ?_⟩
      have hjl : j < left.length := by
        rcases Nat.lt_or_ge j left.length with h | h
        · exact h
        · rw [List.getElem?_eq_none h] at hj; cases hj
      have hpm : p ∈ left := List.mem_of_getElem? hj
      obtain ⟨m, s⟩ := p
      obtain ⟨s1, s2, rfl⟩ := (ham m s).1 (hsub _ hpm)
      have hres : Res l s := ⟨s1, s2⟩
      have hr := hR s hres
      have hp0 := hr.p0
      have hr0 := hr.r0
      have hr1 := hr.r1
      have er : s.Round = ((s.Round.toNat : Nat) : Int) := by omega
      by_cases hex : ∃ a, a < d.length ∧ d.getD a 0 = s.Player
      · obtain ⟨a, ha, he⟩ := hex
        refine ⟨_, he ▸ aJx hD (by omega) ha (by omega), ?_⟩
        have hneg : decide ((a : Int) < 0) = false := decide_eq_false (by omega)
        have hof : jX s.Round a = some (cell a s.Round.toNat) := by rw [er]; exact aAv (by omega)
        simp only [hneg, cond_false, hof, Option.bind_some]
        refine ⟨_, rfl, ?_⟩
        by_cases hc : cell a s.Round.toNat = ⟨s.Round, s.Place⟩
        · simp only [hc, decide_true, Bool.not_true, cond_false]
          obtain ⟨b, w, hw, hT, hF⟩ := aCq (t := t) ha (show s.Round.toNat ≤ 5 by omega) hW
          rw [← er] at hw
          refine ⟨_, hw, ?_⟩
          cases b with
          | false =>
            simp only [Bool.not_false, cond_true]
            refine hbad fun hO => hF rfl fun m v w' h1 h2 => hO.fn m v w' ?_ (.inr ⟨s, hres, a, ha, he, h2⟩)
            rcases h1 with h1 | ⟨x, hx, h1⟩
            · exact .inl h1
            · exact .inr ⟨x, hx.1, h1⟩
          | true =>
            simp only [Bool.not_true, cond_false]
            have hj' : left[j] = (⟨s.Round, s.Place⟩, s) := by
              rw [List.getElem?_eq_getElem hjl] at hj
              exact Option.some.inj hj
            have hmem : ∀ x : aE, ((⟨x.Round, x.Place⟩ : aB), x) ∉ left.eraseIdx j ↔ ((⟨x.Round, x.Place⟩ : aB), x) ∉ left ∨ x = s := by
              intro x
              rw [aAt hnd hjl, hj']
              constructor
              · intro h
                by_cases hx : x = s
                · exact .inr hx
                · exact .inl fun hm => h ⟨hm, fun e => hx (congrArg Prod.snd e)⟩
              · rintro (h | rfl)
                · exact fun h2 => h h2.1
                · exact fun h => h.2 rfl
            refine ih k _ w (by rw [List.length_eraseIdx]; simp [hjl]; omega) (by omega) (hnd.eraseIdx j) (fun q hq => hsub q (List.mem_of_mem_eraseIdx hq)) ((hT rfl).2.ext fun m v => ?_) fun x hx hxl => ?_
            · constructor
              · rintro ((h | ⟨x, hx, h⟩) | h)
                · exact .inl h
                · exact .inr ⟨x, ⟨hx.1, (hmem x).2 (.inl hx.2)⟩, h⟩
                · exact .inr ⟨s, ⟨hres, (hmem s).2 (.inr rfl)⟩, a, ha, he, h⟩
              · rintro (h | ⟨x, ⟨hx1, hx2⟩, h⟩)
                · exact .inl (.inl h)
                · rcases (hmem x).1 hx2 with hx2 | rfl
                  · exact .inl (.inr ⟨x, ⟨hx1, hx2⟩, h⟩)
                  · exact .inr ((xV hD hr ha he m v).1 ⟨x, rfl, h⟩)
            · rcases (hmem x).1 hxl with hxl | rfl
              · exact hg x hx hxl
              · exact ⟨a, ha, he, hc⟩
        · simp only [hc, decide_false, Bool.not_false, cond_true]
          exact hbad fun hO => hc ((aIn hD hr ha he).1 (hO.slot s hres))
      · refine ⟨_, aGq (by omega) fun a ha e => hex ⟨a, ha, e⟩, ?_⟩
        simp only [show decide ((-1 : Int) < 0) = true by decide, cond_true]
        refine ⟨_, rfl, ?_⟩
        simp only [cond_true]
        refine hbad fun hO => ?_
        obtain ⟨a, ha, e, _⟩ := hO.slot s hres
        exact hex ⟨a, ha, e⟩

theorem aGl {Q : (Option aW × Bool) → Prop} {about : List (aB × aE)} (hgo : ∀ won, WonIs won (aGo d) → mY Q d won t about) : fX Q d.length d t about BIG 0 [] := by
  have h32 := ht.len32
  have hl := hD.len
  refine sA (S := List (aB × Int)) (fun k i won => fX Q d.length d t about k i won) d.length (fun p => p)
    (fun i won => WonIs won (fun m v => ∃ j, j < i ∧ j < d.length ∧ d.getD j 0 = -1 ∧ m = cell (sib j) 0 ∧ v = d.getD (sib j) 0)) ?_ ?_ BIG 0 [] (cW (by omega)) (WonIs.nil.ext fun m v => by simp)
  · intro k i won hi hW ih
    simp only [fX, Int.ofNat_lt, hi, decide_true, cond_true, cK hi, cI (show i < 9223372036854775807 by omega)]
    refine ⟨_, rfl, ?_⟩
    rw [← bP hi 0]
    by_cases hb : d.getD i 0 = -1
    · simp only [hb, decide_true, cond_true]
      have hx : aDe (i : Int) 1 = ((sib i : Nat) : Int) := aMs ⟨i, by omega⟩
      have hs : sib i < d.length := by rw [hl]; exact tU ht (by omega)
      obtain ⟨b, w, hw, hT, hF⟩ := aCq (t := t) hs (show 0 ≤ 5 by omega) hW
      rw [hx]
      refine ⟨_, hw, ih w ?_⟩
      have hco : nI (fun m v => ∃ j, j < i ∧ j < d.length ∧ d.getD j 0 = -1 ∧ m = cell (sib j) 0 ∧ v = d.getD (sib j) 0) (clm d (sib i) 0) := by
        rintro m v w' ⟨j, h1, h2, h3, h4, h5⟩ ⟨e1, q, hq, e2⟩
        have : q = 0 := by omega
        subst this
        have := aHu ht hD hi h2 hb h3 (e2.symm.trans h4)
        omega
      have hbt : b = true := by
        cases b with
        | true => rfl
        | false => exact absurd hco (hF rfl)
      refine (hT hbt).2.ext fun m v => ?_
      constructor
      · rintro (⟨j, h1, h2⟩ | ⟨e1, q, hq, e2⟩)
        · exact ⟨j, by omega, h2⟩
        · have : q = 0 := by omega
          subst this
          exact ⟨i, by omega, hi, hb, e2, e1⟩
      · rintro ⟨j, h1, h2, h3, h4, h5⟩
        by_cases hji : j = i
        · subst hji; exact .inr ⟨h5, 0, by omega, h4⟩
        · exact .inl ⟨j, by omega, h2, h3, h4, h5⟩
    · simp only [hb, decide_false, cond_false]
      refine ih won (hW.ext fun m v => ?_)
      constructor
      · rintro ⟨j, h1, h2⟩; exact ⟨j, by omega, h2⟩
      · rintro ⟨j, h1, h2, h3, h4⟩
        by_cases hji : j = i
        · subst hji; exact absurd h3 hb
        · exact ⟨j, by omega, h2, h3, h4⟩
  · intro k i won hi hW
    have hlt : decide ((i : Int) < (d.length : Int)) = false := decide_eq_false (by omega)
    simp only [fX, hlt, cond_false]
    exact hgo won (hW.ext fun m v => ⟨fun ⟨j, _, h⟩ => ⟨j, h⟩, fun ⟨j, h⟩ => ⟨j, by have := h.1; omega, h⟩⟩)
end

/-- The players of the slots, if the lucky slips agree. -/
def kG (t : aO) (l : List aE) : Option (List Int) := match wB t l with
  | some (d, U) => if U.length = (dD l).length then some d else none
  | none => none
/-- All slips agree. -/
def AGR (t : aO) (l : List aE) (d : List Int) : Prop := kG t l = some d ∧ OKF d l

theorem aCj {L : List aE} (hL : LOK L) {S : List Int} : ∀ {n i : Nat} {d ever : List Int} {U : List aE} {d' : List Int} {U' : List aE}, GI L S i d ever U → i + n = S.length → (∀ a, a < d.length → -1 ≤ d.getD a 0) → iA L n i d ever U = some (d', U') → ∀ a, a < d'.length → -1 ≤ d'.getD a 0
  | 0, i, d, ever, U, d', U', h, hn, hr, he => by
    simp only [iA, Option.some.injEq, Prod.mk.injEq] at he
    obtain ⟨rfl, rfl⟩ := he
    exact hr
  | n + 1, i, d, ever, U, d', U', h, hn, hr, he => by
    unfold iA at he
    have hi : i < S.length := by omega
    have hid : i < d.length := by rw [h.len]; exact hi
    cases hs : gS L i (L.length + 1) (d.getD i 0) ever U with
    | none => rw [hs] at he; simp at he
    | some q =>
      obtain ⟨now', ever', U1⟩ := q
      rw [hs] at he
      obtain ⟨_, _, hnow, _⟩ := wH hL (h.start hi) hs
      refine aCj hL (h.next hL hi hs) (by omega) (fun a ha => ?_) he
      rw [List.length_set] at ha
      rw [jH hid]
      split
      · rcases hnow with e | ⟨_, e, _⟩
        · rw [e]; exact hr i hid
        · omega
      · exact hr a ha

theorem sT {t : aO} (ht : TreeOK t) : tA t.Slots := ⟨ht.rng, ht.bye, ht.dup⟩
theorem zX {t : aO} {l : List aE} (hs : ∀ s ∈ l, eL t s = true) : LOK (dD l) := by
  intro s hm
  simp only [dD, List.mem_filter, kW, isL, decide_eq_true_eq] at hm
  have := hs s hm.1
  simp only [eL, hm.2, if_true, Bool.and_eq_true, iV] at this
  omega
theorem aIr {t : aO} (ht : TreeOK t) {l : List aE} (hs : ∀ s ∈ l, eL t s = true) {d : List Int} {U : List aE} (h : wB t l = some (d, U)) : DOK t d := by
  have hL := zX hs
  have hG := vD (dD l) (sT ht)
  obtain ⟨ever, hI⟩ := vZ hL hG (by omega) h
  refine ⟨hI.len, hI.dup, fun a ha => hI.bye a ha, aCj hL hG (by omega) (fun a ha => ?_) h⟩
  rw [bP ha]; exact (ht.rng a ha).1
theorem wA {t : aO} (ht : TreeOK t) {l : List aE} (hs : ∀ s ∈ l, eL t s = true) {d : List Int} (h : kG t l = some d) : DOK t d := by
  unfold kG at h
  split at h
  · rename_i d' U hr
    split at h
    · cases h; exact aIr ht hs hr
    · cases h
  · cases h

theorem aAb {t : aO} (ht : TreeOK t) {l : List aE} (hs : ∀ s ∈ l, eL t s = true) (hl : l.length ≤ 500) {Q : (Option aW × Bool) → Prop}
    (hok : ∀ d, AGR t l d → ∀ won, WonIs won (eA d (Res l)) → Q (some ⟨t, d, won⟩, true)) (hbad : (∀ d, ¬ AGR t l d) → Q (none, false)) : nL t l Q := by
  have h32 := ht.len32
  have hll := vT (l := l)
  unfold nL
  refine ⟨t.Slots, by unfold jV; rw [gB (by simp; omega)]; rfl, ?_⟩
  refine aGm (by omega) (fun h => hbad fun d hd => h hd.2.two) fun hN lucky about hLA => ?_
  unfold mX
  have hLn : (dD l).Nodup := (uO l).filter _
  refine aEk hLn _ (sT ht) (zX hs) h32 (by omega) (lk := lucky) ⟨hLA.ln, fun s => ?_⟩ (fun d U hp hU => ?_) fun hno d lk => ?_
  · rw [hLA.lm]; simp [dD, kW, isL]
  · have hpo : kG t l = some d := by unfold kG wB; rw [hp]; simp [hU]
    have hD := wA ht hs hpo
    simp only [Bool.not_true, cond_false]
    refine aGl ht hD fun won hW => ?_
    have habn : about.Nodup := (List.Pairwise.of_map (·.1) (fun a b h e => h (e ▸ rfl)) hLA.an)
    unfold mY uW
    refine aFb ht hD (fun s hr => zY (hs s hr.1) hr.2) hLA.am hN (fun hO won hW => hok d ⟨hpo, hO⟩ won hW) (fun hO => hbad fun d' hd' => ?_) about.length BIG about won rfl (cW ?_) habn (fun p hp => hp) (hW.ext fun m v => ?_) fun s hr hn => absurd ((hLA.am _ _).2 ⟨hr.1, hr.2, rfl⟩) hn
    · have := hd'.1
      rw [hpo] at this
      cases this
      exact hO hd'.2
    · have : about.length ≤ l.length := by
        have := lH (l := about) (m := l.map fun s => ((⟨s.Round, s.Place⟩ : aB), s)) habn fun x hx => ?_
        · simpa using this
        · obtain ⟨m, s⟩ := x
          obtain ⟨a1, a2, rfl⟩ := (hLA.am m s).1 hx
          exact List.mem_map.2 ⟨s, a1, rfl⟩
      omega
    · constructor
      · exact .inl
      · rintro (h | ⟨x, ⟨hx1, hx2⟩, _⟩)
        · exact h
        · exact absurd ((hLA.am _ _).2 ⟨hx1.1, hx1.2, rfl⟩) hx2
  · simp only [Bool.not_false, cond_true]
    refine hbad fun d' hd' => ?_
    have := hd'.1
    unfold kG at this
    split at this
    · rename_i d2 U hr
      split at this
      · rename_i hU; exact hno d2 U hr hU
      · cases this
    · cases this
end Go.Am
