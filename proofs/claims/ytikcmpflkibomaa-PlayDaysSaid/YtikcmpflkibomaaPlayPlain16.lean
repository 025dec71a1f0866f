/- Layer 8, plain: with fewer jobs none is later; the first day by which not all can be played. -/
import Derived.Test.YtikcmpflkibomaaPlayPlain15
namespace Go.Am

theorem snoc_ind {α : Type} {P : List α → Prop} (h0 : P []) (h1 : ∀ l a, P l → P (l ++ [a])) (l : List α) : P l := by
  rw [← List.reverse_reverse l]
  induction l.reverse with
  | nil => exact h0
  | cons a t ih => rw [List.reverse_cons]; exact h1 _ _ ih

theorem Ord.pop {p : ApiProgram} {pre : List ApiSeat} {s : ApiSeat} (h : Ord p (pre ++ [s])) :
    Ord p pre ∧ Seat p s ∧ s.Day ≤ (jobAt p s.Job).Due ∧ (∀ o ∈ pre, o.Job ≠ s.Job) ∧ (∀ o ∈ pre, o.Day ≤ s.Day) ∧ ∀ a ∈ (jobAt p s.Job).After, ∃ o ∈ pre, o.Job = a := by
  have ep : ∀ j (h : j < pre.length), (pre ++ [s])[j]'(by simp; omega) = pre[j] := fun j h => List.getElem_append_left h
  have hi : pre.length < (pre ++ [s]).length := by simp
  have es : (pre ++ [s])[pre.length] = s := by simp
  refine ⟨⟨fun i h1 => ?_, fun i h1 => ?_, fun i h1 j hj => ?_, fun i h1 j hj => ?_, fun i h1 a ha => ?_⟩, ?_, ?_, fun o ho => ?_, fun o ho => ?_, fun a ha => ?_⟩
  · have := h.seat i (by simp; omega); rwa [ep i h1] at this
  · have := h.due i (by simp; omega); rwa [ep i h1] at this
  · have := h.fresh i (by simp; omega) j hj; rwa [ep i h1, ep j (by omega)] at this
  · have := h.sorted i (by simp; omega) j hj; rwa [ep i h1, ep j (by omega)] at this
  · obtain ⟨j, hj, e⟩ := h.after i (by simp; omega) a (by rw [ep i h1]; exact ha)
    rw [ep j (by omega)] at e
    exact ⟨j, hj, e⟩
  · have := h.seat _ hi; rwa [es] at this
  · have := h.due _ hi; rwa [es] at this
  · obtain ⟨j, hj, rfl⟩ := List.getElem_of_mem ho
    have := h.fresh _ hi j hj; rwa [es, ep j hj] at this
  · obtain ⟨j, hj, rfl⟩ := List.getElem_of_mem ho
    have := h.sorted _ hi j hj; rwa [es, ep j hj] at this
  · obtain ⟨j, hj, e⟩ := h.after _ hi a (by rw [es]; exact ha)
    rw [ep j hj] at e
    exact ⟨_, List.getElem_mem hj, e⟩

def inB (B : List Bool) (a : Int) : Bool := B.getD a.toNat false
def resS (B : List Bool) (s : ApiSeat) : ApiSeat := { s with Job := rankB B s.Job }
def resR (B : List Bool) (l : List ApiSeat) : List ApiSeat := (l.filter fun s => inB B s.Job).map (resS B)
theorem resR_snoc (B : List Bool) (pre : List ApiSeat) (s : ApiSeat) : resR B (pre ++ [s]) = bif inB B s.Job then resR B pre ++ [resS B s] else resR B pre := by
  unfold resR
  rw [List.filter_append, List.filter_cons]
  cases inB B s.Job <;> simp
theorem mem_resR {B : List Bool} {l : List ApiSeat} {o : ApiSeat} : o ∈ resR B l ↔ ∃ s ∈ l, inB B s.Job = true ∧ o = resS B s := by
  unfold resR
  rw [List.mem_map]
  constructor
  · rintro ⟨s, hs, rfl⟩
    rw [List.mem_filter] at hs
    exact ⟨s, hs.1, hs.2, rfl⟩
  · rintro ⟨s, hs, hb, rfl⟩
    exact ⟨s, List.mem_filter.2 ⟨hs, hb⟩, rfl⟩

theorem rank_inj {B : List Bool} {a b : Int} (ha : inB B a = true) (hb : inB B b = true) (h0 : 0 ≤ a) (h1 : 0 ≤ b) (h : rankB B a = rankB B b) : a = b := by
  unfold rankB at h
  rcases Nat.lt_trichotomy a.toNat b.toNat with h2 | h2 | h2
  · have := rank_lt (B := B) ha h2; omega
  · omega
  · have := rank_lt (B := B) hb h2; omega
theorem mem_ren {B : List Bool} {a : Int} {l : List Int} (ha : inB B a = true) (h0 : 0 ≤ a) (hl : ∀ x ∈ l, 0 ≤ x) : rankB B a ∈ renB B l ↔ a ∈ l := by
  unfold renB
  rw [List.mem_map]
  constructor
  · rintro ⟨x, hx, e⟩
    rw [List.mem_filter] at hx
    rw [← rank_inj hx.2 ha (hl x hx.1) h0 e]
    exact hx.1
  · intro h
    exact ⟨a, List.mem_filter.2 ⟨h, ha⟩, rfl⟩

variable {p : ApiProgram} (hp : VP p) {B : List Bool}

theorem rank_isJ {a : Int} (ha : inB B a = true) (hj : isJ p a) : isJ (subP p B) (rankB B a) := by
  have := rank_lt (B := B) ha hj.2
  refine ⟨by unfold rankB; omega, ?_⟩
  rw [sub_jobs]
  unfold rankB
  omega
theorem rank_jobAt {a : Int} (ha : inB B a = true) (hj : isJ p a) : jobAt (subP p B) (rankB B a) = subJob B (jobAt p a) := by
  have := sub_jobAt (p := p) (B := B) (a := a.toNat) ha hj.2
  rwa [Int.toNat_of_nonneg hj.1] at this
include hp
theorem rank_share {a b : Int} (ha : inB B a = true) (hb : inB B b = true) (ja : isJ p a) (jb : isJ p b) : shareB (subP p B) (rankB B a) (rankB B b) = shareB p a b := by
  have va := ja.vj hp
  have vb := jb.vj hp
  unfold shareB
  rw [rank_jobAt ha ja, rank_jobAt hb jb]
  simp only [subJob]
  have e1 := mem_ren (l := (jobAt p a).After) hb jb.1 fun x hx => (va.after x hx).1
  have e2 := mem_ren (l := (jobAt p a).With) hb jb.1 fun x hx => (va.withh x hx).1
  have e3 := mem_ren (l := (jobAt p b).After) ha ja.1 fun x hx => (vb.after x hx).1
  have e4 := mem_ren (l := (jobAt p b).With) ha ja.1 fun x hx => (vb.withh x hx).1
  simp only [e1, e2, e3, e4]

theorem res_ord : ∀ pre : List ApiSeat, Ord p pre → Ord (subP p B) (resR B pre) ∧
    ∀ j, isJ p j → inB B j = true → endAt (runN (subP p B) (resR B pre) (highT (subP p B)) (resR B pre).length).2 (rankB B j) ≤ endAt (runN p pre (highT p) pre.length).2 j := by
  refine snoc_ind (fun _ => ⟨⟨by simp [resR], by simp [resR], by simp [resR], by simp [resR], by simp [resR]⟩, fun j _ _ => ?_⟩) fun pre s ih h => ?_
  · simp only [resR, List.filter_nil, List.map_nil, List.length_nil, runN, endAt]
    simp only [List.getD_eq_getElem?_getD, List.getElem?_replicate]
    split <;> split <;> simp
  · obtain ⟨ho, hs, hdue, hne, hle, haf⟩ := h.pop
    obtain ⟨hq, hE⟩ := ih ho
    rw [resR_snoc]
    rw [runN_push pre s hs.job]
    have hlen := (runN_length (p := p) (order := pre) (takes := highT p) pre.length).2
    cases hb : inB B s.Job with
    | false =>
      simp only [cond_false]
      refine ⟨hq, fun j hj hbj => ?_⟩
      rw [endAt_set_ne hs.job.1 hj.1 (fun e => by rw [e, hbj] at hb; cases hb)]
      exact hE j hj hbj
    | true =>
      simp only [cond_true]
      have hjq := rank_isJ (p := p) hb hs.job
      have hlq := (runN_length (p := subP p B) (order := resR B pre) (takes := highT (subP p B)) (resR B pre).length).2
      refine ⟨hq.push ⟨hjq, hs.day0, hs.day, hs.court0, hs.court⟩ ?_ (fun o hom => ?_) (fun o hom => ?_) (fun a ha => ?_), fun j hj hbj => ?_⟩
      · simp only [resS]
        rw [rank_jobAt hb hs.job]
        exact hdue
      · obtain ⟨o', h1, h2, rfl⟩ := mem_resR.1 hom
        obtain ⟨i, hi, rfl⟩ := List.getElem_of_mem h1
        exact fun e => hne _ h1 (rank_inj h2 hb (ho.seat i hi).job.1 hs.job.1 e)
      · obtain ⟨o', h1, h2, rfl⟩ := mem_resR.1 hom
        exact hle o' h1
      · simp only [resS] at ha
        rw [rank_jobAt hb hs.job] at ha
        simp only [subJob, renB, List.mem_map, List.mem_filter] at ha
        obtain ⟨a', ⟨h1, h2⟩, rfl⟩ := ha
        obtain ⟨o, h3, h4⟩ := haf a' h1
        exact ⟨resS B o, mem_resR.2 ⟨o, h3, by rw [h4]; exact h2, rfl⟩, by simp [resS, h4]⟩
      · rw [runN_push (resR B pre) (resS B s) hjq]
        by_cases e : j = s.Job
        · subst e
          have e1 := endAt_set_self hlq hjq (beginS (subP p B) (resR B pre) (runN (subP p B) (resR B pre) (highT (subP p B)) (resR B pre).length).2 (resS B s) + (jobAt (subP p B) (resS B s).Job).Length.High)
          have e2 := endAt_set_self hlen hs.job (beginS p pre (runN p pre (highT p) pre.length).2 s + (jobAt p s.Job).Length.High)
          rw [e2]
          rw [show rankB B s.Job = (resS B s).Job from rfl] at e1 ⊢
          rw [e1]
          have hjob : (jobAt (subP p B) (resS B s).Job).Length = (jobAt p s.Job).Length := by simp only [resS]; rw [rank_jobAt hb hs.job]; rfl
          have hw := beginS_le.1 (Int.le_refl (beginS p pre (runN p pre (highT p) pre.length).2 s))
          have : beginS (subP p B) (resR B pre) (runN (subP p B) (resR B pre) (highT (subP p B)) (resR B pre).length).2 (resS B s) ≤ beginS p pre (runN p pre (highT p) pre.length).2 s := by
            refine beginS_le.2 ⟨hw.1, ?_, fun o hom hd => ?_⟩
            · simp only [resS]
              rw [rank_jobAt hb hs.job]
              exact hw.2.1
            · obtain ⟨o', h1, h2, rfl⟩ := mem_resR.1 hom
              obtain ⟨i, hi, rfl⟩ := List.getElem_of_mem h1
              have hjo := (ho.seat i hi).job
              have hend := hE _ hjo h2
              obtain ⟨w1, w2⟩ := hw.2.2 _ h1 hd
              refine ⟨fun hc => ?_, fun hsh => ?_⟩
              · have := w1 hc
                simp only [resS]
                omega
              · simp only [resS] at hsh ⊢
                rw [rank_share hp hb h2 hs.job hjo] at hsh
                have := w2 hsh
                simp only [subP]
                simp only [subP] at hend
                omega
          rw [hjob]
          omega
        · have e3 : rankB B s.Job ≠ rankB B j := fun e' => e (rank_inj hb hbj hs.job.1 hj.1 e').symm
          rw [endAt_set_ne hs.job.1 hj.1 (fun e' => e e'.symm)]
          have := endAt_set_ne (l := (runN (subP p B) (resR B pre) (highT (subP p B)) (resR B pre).length).2) hjq.1 (rank_isJ (p := p) hbj hj).1 e3 (beginS (subP p B) (resR B pre) (runN (subP p B) (resR B pre) (highT (subP p B)) (resR B pre).length).2 (resS B s) + (jobAt (subP p B) (resS B s).Job).Length.High)
          rw [show (resS B s).Job = rankB B s.Job from rfl] at this ⊢
          rw [this]
          exact hE j hj hbj

omit hp in
theorem left_not : ∀ n, n ≤ B.length → (leftB B n).length + (leftB (B.map (!·)) n).length = n
  | 0, _ => rfl
  | n + 1, h => by
    have ih := left_not n (by omega)
    rw [leftB_succ, leftB_succ, getD_get (show n < B.length by omega), getD_get (show n < (B.map (!·)).length by simp; omega)]
    simp only [List.getElem_map]
    cases B[n] <;> simp <;> omega

omit hp in
theorem filter_sum {α : Type} (f : α → Bool) (l : List α) : (l.filter f).length + (l.filter fun a => !f a).length = l.length := by
  induction l with
  | nil => rfl
  | cons a l ih =>
    rw [List.filter_cons, List.filter_cons]
    cases f a <;> simp <;> omega

omit hp in
theorem res_len_le {l : List ApiSeat} (ho : Ord p l) : (resR B l).length ≤ (leftB B p.Jobs.length).length := by
  have h := nodup_len (leftB B p.Jobs.length).length ((resR B l).map fun s => s.Job.toNat) ?_ ?_
  · simpa using h
  · rw [List.nodup_iff_pairwise_ne, List.pairwise_map]
    unfold resR
    rw [List.pairwise_map]
    have hpw : l.Pairwise fun a b => a.Job ≠ b.Job := List.pairwise_iff_getElem.2 fun i j hi hj hij => ho.fresh j hj i hij
    refine List.Pairwise.imp_of_mem ?_ (List.Pairwise.filter _ hpw)
    intro a b ha hb hne e
    rw [List.mem_filter] at ha hb
    obtain ⟨i, hi, rfl⟩ := List.getElem_of_mem ha.1
    obtain ⟨j, hj, rfl⟩ := List.getElem_of_mem hb.1
    refine hne (rank_inj ha.2 hb.2 (ho.seat i hi).job.1 (ho.seat j hj).job.1 ?_)
    simp only [resS, rankB] at e ⊢
    omega
  · intro x hx
    obtain ⟨o, ho', rfl⟩ := List.mem_map.1 hx
    obtain ⟨s, hs, hb, rfl⟩ := mem_resR.1 ho'
    obtain ⟨i, hi, rfl⟩ := List.getElem_of_mem hs
    have := (rank_isJ (p := p) hb (ho.seat i hi).job).2
    rwa [sub_jobs] at this

omit hp in
theorem res_len (hB : B.length = p.Jobs.length) {l : List ApiSeat} (ho : Ord p l) (hl : l.length = p.Jobs.length) : (resR B l).length = (leftB B p.Jobs.length).length := by
  have h1 := res_len_le (B := B) ho
  have h2 := res_len_le (B := B.map (!·)) ho
  have h3 := left_not (B := B) p.Jobs.length (by omega)
  have h4 : (resR B l).length + (resR (B.map (!·)) l).length = l.length := by
    unfold resR
    rw [List.length_map, List.length_map]
    have e : l.filter (fun s => inB (B.map (!·)) s.Job) = l.filter fun s => !inB B s.Job := by
      refine List.filter_congr fun s hs => ?_
      obtain ⟨i, hi, rfl⟩ := List.getElem_of_mem hs
      have := (ho.seat i hi).job.2
      unfold inB
      rw [getD_get (show l[i].Job.toNat < B.length by omega), getD_get (show l[i].Job.toNat < (B.map (!·)).length by simp; omega)]
      simp
    rw [e]
    have := filter_sum (fun s : ApiSeat => inB B s.Job) l
    omega
  omega

/-- An order of all jobs holds one of some jobs. -/
theorem sub_full (hB : B.length = p.Jobs.length) {l : List ApiSeat} {n : Int} (h : Full p n none 0 l) : Full (subP p B) n none 0 (resR B l) := by
  obtain ⟨ho, hl⟩ := Ord_of h.ord
  obtain ⟨hq, hE⟩ := res_ord hp (B := B) l ho
  refine full_of (isOrd_of hq (by rw [sub_jobs]; exact res_len hB ho hl)) (fitsB_iff.2 fun o hom => ?_) fun s hs => ?_
  · obtain ⟨s, hs, hb, rfl⟩ := mem_resR.1 hom
    have h1 := fitsB_iff.1 h.fits s hs
    obtain ⟨i, hi, rfl⟩ := List.getElem_of_mem hs
    have h2 := hE _ (ho.seat i hi).job hb
    exact Int.le_trans h2 h1
  · obtain ⟨s', hs', hb, rfl⟩ := mem_resR.1 hs
    exact h.days s' hs'

omit hp in
theorem set_true {s : List Bool} {i : Nat} (a : Nat) (h : s.getD i false = true) : (s.set a true).getD i false = true := by
  have hi : i < s.length := by
    rcases Nat.lt_or_ge i s.length with h1 | h1
    · exact h1
    · rw [List.getD_eq_getElem?_getD, List.getElem?_eq_none h1] at h
      cases h
  rw [getD_get (by simpa using hi), List.getElem_set]
  split
  · rfl
  · rwa [getD_get hi] at h
omit hp in
theorem markL_true {i : Nat} : ∀ (l : List Int) (s : List Bool), s.getD i false = true → (markL l s).getD i false = true
  | [], s, h => h
  | a :: l, s, h => markL_true l _ (set_true _ h)
omit hp in
theorem markStep_true {day : Int} {k i : Nat} {s : List Bool} (h : s.getD i false = true) : (markStep p day k s).getD i false = true := by
  have h1 : (markS p day k s).getD i false = true := by
    unfold markS
    cases decide ((jobAt p k).Due ≤ day)
    · exact h
    · exact set_true _ h
  unfold markStep
  cases (markS p day k s).getD k false
  · exact h1
  · exact markL_true _ _ h1
omit hp in
theorem marks_true {day : Int} {i : Nat} : ∀ (n : Nat) (s : List Bool), s.getD i false = true → (marks p day n s).getD i false = true
  | 0, s, h => h
  | n + 1, s, h => marks_true n _ (markStep_true h)
omit hp in
theorem marks_all {day : Int} (hd : ∀ i : Nat, i < p.Jobs.length → (jobAt p i).Due ≤ day) {i : Nat} : ∀ (n : Nat) (s : List Bool), n ≤ p.Jobs.length → s.length = p.Jobs.length → i < n → (marks p day n s).getD i false = true
  | 0, s, _, _, h => by omega
  | n + 1, s, hn, hs, h => by
    rw [marks]
    by_cases e : i = n
    · subst e
      refine marks_true _ _ ?_
      have h1 : (markS p day i s).getD i false = true := by
        unfold markS
        rw [decide_eq_true (hd i (by omega))]
        simp only [cond_true]
        rw [getD_get (by simp; omega)]
        simp
      unfold markStep
      rw [h1]
      exact markL_true _ _ h1
    · exact marks_all hd n _ (by omega) (by rw [markStep_len]; exact hs) (by omega)

omit hp in
theorem left_all {B : List Bool} {n : Nat} (h : ∀ i, i < n → B.getD i false = true) : leftB B n = List.range n := by
  unfold leftB
  rw [List.filter_eq_self]
  intro i hi
  exact h i (List.mem_range.1 hi)
theorem sub_all (h : ∀ i, i < p.Jobs.length → B.getD i false = true) : subP p B = p := by
  have ren : ∀ l : List Int, (∀ x ∈ l, 0 ≤ x ∧ x < p.Jobs.length) → renB B l = l := by
    intro l hl
    unfold renB
    rw [List.filter_eq_self.2 fun a ha => h a.toNat (by have := hl a ha; omega)]
    conv => rhs; rw [← List.map_id l]
    refine List.map_congr_left fun a ha => ?_
    have := hl a ha
    unfold rankB
    rw [left_all fun i hi => h i (by omega)]
    simp
    omega
  have jobs : (leftB B p.Jobs.length).map (fun i : Nat => subJob B (jobAt p i)) = p.Jobs := by
    rw [left_all h]
    refine List.ext_getElem (by simp) fun i h1 h2 => ?_
    have hij : isJ p i := ⟨by omega, by simpa using h2⟩
    have vj := hij.vj hp
    simp only [List.getElem_map, List.getElem_range, subJob]
    rw [ren _ fun x hx => ⟨(vj.after x hx).1, by have := vj.after x hx; simp at this; omega⟩, ren _ fun x hx => ⟨(vj.withh x hx).1, (vj.withh x hx).2.1⟩]
    unfold jobAt
    rw [Int.toNat_natCast, getD_get h2]
  unfold subP
  rw [jobs]

theorem need_all : subP p (needB p 2) = p := by
  refine sub_all hp fun i hi => ?_
  refine marks_all (fun k hk => ?_) _ _ (Nat.le_refl _) (by simp) hi
  have hij : isJ p k := ⟨by omega, by simpa using hk⟩
  exact (hij.vj hp).due

/-- Some order of the jobs that are due fits. -/
def DueFits (p : ApiProgram) (d : Int) : Prop := ∃ l, Full (subP p (needB p d)) p.Days.length none 0 l
def stuckPost (p : ApiProgram) (r : Option (Int × Int)) : Prop :=
  (r = some (-1, 0) ∧ ∀ d : Int, 0 ≤ d → d < 3 → DueFits p d) ∨ ∃ n : Int, r = some (n, 0) ∧ 0 ≤ n ∧ n < 3 ∧ ¬ DueFits p n ∧ ∀ d : Int, 0 ≤ d → d < n → DueFits p d

theorem Stuck_spec (hv : valid p = true) : stuckPost p (play_Stuck p) := by
  have e1 : play_Check p = some 0 := by rw [play_Check_eq p hp.small, hv]; rfl
  unfold play_Stuck
  simp only [e1, Option.bind_some, decide_true, Bool.not_true, cond_false]
  refine loop_pred (S := Unit) (fun k i _ => play_Stuck_L0 p k i) 3 (stuckPost p) (fun i _ => i ≤ 3 ∧ ∀ d : Int, 0 ≤ d → d < i → DueFits p d) ?_ ?_ BIG 0 () (BIG_lt (by omega)) ⟨by omega, fun d h0 hm => by simp at hm; omega⟩
  · rintro k i _ hi ⟨_, hno⟩ ih
    have hlt : decide ((i : Int) < 3) = true := decide_eq_true (by omega)
    obtain ⟨n, l, b, hr, hl, ht, hf⟩ := best_spec (VP_of (sub_valid hv (needB p i)))
    simp only [play_Stuck_L0, hlt, cond_true, play_due_eq hp, hr, Option.bind_some, w64_succ (show i < 9223372036854775807 by omega)]
    cases b with
    | true =>
      obtain ⟨h0, hn, hfull, _⟩ := ht rfl
      refine ih () ⟨by omega, fun d h0 hd => ?_⟩
      by_cases e : d = i
      · subst e; exact ⟨l, hfull.mono hn (Int.le_refl 0)⟩
      · exact hno d h0 (by omega)
    | false =>
      obtain ⟨_, _, hnd⟩ := hf rfl
      exact .inr ⟨i, rfl, by omega, by omega, fun ⟨l, hl⟩ => hnd p.Days.length (by omega) (by simp only [subP]; omega) l hl, hno⟩
  · rintro k i _ hi ⟨hi2, hno⟩
    have hlt : decide ((i : Int) < 3) = false := decide_eq_false (by omega)
    simp only [play_Stuck_L0, hlt, cond_false, play_Stuck_K0]
    have hi3 : (i : Int) = 3 := by omega
    exact .inl ⟨rfl, hi3 ▸ hno⟩
end Go.Am
