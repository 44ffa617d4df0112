/-
  Equipment: where the items suffice for all needs, one need can be served so that they suffice for the others.
  Conditions: none.
-/
import Derived.Test.YtkooomnoofnfpaaEv
namespace Go.Proofs.Ytkooomnoofnfpaa.Equip
set_option linter.unusedSimpArgs false
set_option linter.unusedVariables false

/-- How many of the first N items are free and serve. -/
def cnt : Nat → (Nat → Bool) → (Nat → Bool) → Nat
  | 0, _, _ => 0
  | N + 1, tk, us => cnt N tk us + if !tk N && us N then 1 else 0
def dem (needs : List Int) (n : Int) : Nat := needs.countP (fun m => decide (n ≤ m))
/-- us i n: item i serves the need n. -/
def enoughB (N : Nat) (us : Int → Nat → Bool) (tk : Nat → Bool) (needs : List Int) : Bool := needs.all fun n => decide (dem needs n ≤ cnt N tk (us n))

def put (tk : Nat → Bool) (i : Nat) : Nat → Bool := fun j => j == i || tk j

theorem cnt_congr {N : Nat} {tk tk' us us' : Nat → Bool} (h : ∀ i, i < N → (!tk i && us i) = (!tk' i && us' i)) : cnt N tk us = cnt N tk' us' := by
  induction N with
  | zero => rfl
  | succ N ih =>
    unfold cnt
    rw [ih (fun i hi => h i (by omega)), h N (by omega)]

theorem cnt_put_ge {N i : Nat} (hi : N ≤ i) (tk us : Nat → Bool) : cnt N (put tk i) us = cnt N tk us :=
  cnt_congr fun j hj => by
    have : (j == i) = false := by
      rw [beq_eq_false_iff_ne]
      omega
    simp [put, this]

theorem cnt_put {i : Nat} (tk us : Nat → Bool) (ht : tk i = false) : ∀ {N : Nat}, i < N → cnt N (put tk i) us + (if us i then 1 else 0) = cnt N tk us
  | N + 1, hi => by
    unfold cnt
    by_cases e : N = i
    · subst e
      rw [cnt_put_ge (Nat.le_refl _)]
      have : put tk N N = true := by simp [put]
      simp only [this, ht, Bool.not_true, Bool.false_and, Bool.not_false, Bool.true_and]
      cases us N <;> simp
    · have h := cnt_put tk us ht (show i < N by omega)
      have : put tk i N = tk N := by
        have : (N == i) = false := by
          rw [beq_eq_false_iff_ne]
          exact e
        simp [put, this]
      rw [this]
      omega

theorem cnt_pos {N : Nat} {tk us : Nat → Bool} (h : 0 < cnt N tk us) : ∃ i, i < N ∧ tk i = false ∧ us i = true := by
  induction N with
  | zero => simp [cnt] at h
  | succ N ih =>
    unfold cnt at h
    cases hN : (!tk N && us N) with
    | true =>
      simp only [Bool.and_eq_true, Bool.not_eq_true'] at hN
      exact ⟨N, by omega, hN.1, hN.2⟩
    | false =>
      rw [hN] at h
      obtain ⟨i, h1, h2⟩ := ih (by simpa using h)
      exact ⟨i, by omega, h2⟩

theorem dem_cons (a : Int) (l : List Int) (n : Int) : dem (a :: l) n = dem l n + if n ≤ a then 1 else 0 := by
  unfold dem
  rw [List.countP_cons]
  by_cases h : n ≤ a <;> simp [h]

theorem dem_mono {l : List Int} {n m : Int} (h : n ≤ m) : dem l m ≤ dem l n := by
  unfold dem
  induction l with
  | nil => exact Nat.le_refl _
  | cons a l ih =>
    rw [List.countP_cons, List.countP_cons]
    by_cases h1 : m ≤ a
    · have h2 : n ≤ a := by omega
      simp [h1, h2]
      exact ih
    · by_cases h2 : n ≤ a <;> simp [h1, h2] <;> omega

/-- The least of the limits of items that are free and serve. -/
theorem least {N : Nat} (P : Nat → Prop) (lim : Nat → Int) (h : ∃ i, i < N ∧ P i) : ∃ i, i < N ∧ P i ∧ ∀ j, j < N → P j → lim i ≤ lim j := by
  induction N with
  | zero =>
    obtain ⟨i, h, _⟩ := h
    omega
  | succ N ih =>
    by_cases h0 : ∃ i, i < N ∧ P i
    · obtain ⟨i, hi, hP, hm⟩ := ih h0
      by_cases hN : P N ∧ lim N < lim i
      · refine ⟨N, by omega, hN.1, fun j hj hPj => ?_⟩
        by_cases e : j = N
        · subst e
          exact Int.le_refl _
        · exact Int.le_trans (Int.le_of_lt hN.2) (hm j (by omega) hPj)
      · refine ⟨i, by omega, hP, fun j hj hPj => ?_⟩
        by_cases e : j = N
        · subst e
          exact Int.not_lt.1 (fun h => hN ⟨hPj, h⟩)
        · exact hm j (by omega) hPj
    · obtain ⟨i, hi, hP⟩ := h
      have e : i = N := by
        rcases Nat.lt_or_ge i N with h | h
        · exact absurd ⟨i, h, hP⟩ h0
        · omega
      subst e
      refine ⟨i, by omega, hP, fun j hj hPj => ?_⟩
      by_cases e : j = i
      · subst e
        exact Int.le_refl _
      · exact absurd ⟨j, by omega, hPj⟩ h0

/-- us n i: i is in time and its limit is at least n. -/
def serves (okd : Nat → Bool) (lim : Nat → Int) (n : Int) (i : Nat) : Bool := okd i && decide (n ≤ lim i)

theorem hall {N : Nat} {okd : Nat → Bool} {lim : Nat → Int} {tk : Nat → Bool} {n0 : Int} {rest : List Int} (h : enoughB N (serves okd lim) tk (n0 :: rest) = true) :
    ∃ i, i < N ∧ tk i = false ∧ serves okd lim n0 i = true ∧ enoughB N (serves okd lim) (put tk i) rest = true := by
  have hall : ∀ n ∈ n0 :: rest, dem (n0 :: rest) n ≤ cnt N tk (serves okd lim n) := by
    intro n hn
    have := List.all_eq_true.1 h n hn
    simpa using this
  have h0 := hall n0 List.mem_cons_self
  rw [dem_cons, if_pos (Int.le_refl _)] at h0
  obtain ⟨i, hi, ⟨ht, hs⟩, hm⟩ := least (N := N) (fun i => tk i = false ∧ serves okd lim n0 i = true) lim (cnt_pos (by omega))
  refine ⟨i, hi, ht, hs, List.all_eq_true.2 fun m hmr => ?_⟩
  have hm1 := hall m (List.mem_cons_of_mem _ hmr)
  rw [dem_cons] at hm1
  have hc := cnt_put tk (serves okd lim m) ht hi
  simp only [decide_eq_true_eq]
  by_cases hle : m ≤ n0
  · rw [if_pos hle] at hm1
    have : (if serves okd lim m i = true then 1 else 0) ≤ 1 := by split <;> omega
    omega
  · rw [if_neg hle] at hm1
    cases hsi : serves okd lim m i with
    | false =>
      rw [hsi] at hc
      simp at hc
      omega
    | true =>
      rw [hsi] at hc
      simp only [if_true] at hc
      have hli : m ≤ lim i := by
        simp [serves] at hsi
        exact hsi.2
      have e : cnt N tk (serves okd lim m) = cnt N tk (serves okd lim n0) := by
        refine cnt_congr fun j hj => ?_
        cases htj : tk j with
        | true => simp
        | false =>
          simp only [Bool.not_false, Bool.true_and]
          cases hj0 : serves okd lim n0 j with
          | true =>
            have := hm j hj ⟨htj, hj0⟩
            simp [serves] at hj0 ⊢
            exact ⟨hj0.1, by omega⟩
          | false =>
            simp [serves] at hj0 ⊢
            intro h
            have := hj0 h
            omega
      have := dem_mono (l := rest) (show n0 ≤ m by omega)
      omega

/-- The first place from i on at which P holds. -/
def firstB (P : Nat → Bool) : Nat → Nat → Option Nat
  | 0, _ => none
  | d + 1, i => if P i then some i else firstB P d (i + 1)
theorem firstB_some {P : Nat → Bool} : ∀ {d i r : Nat}, firstB P d i = some r → i ≤ r ∧ r < i + d ∧ P r = true ∧ ∀ j, i ≤ j → j < r → P j = false
  | d + 1, i, r, h => by
    unfold firstB at h
    cases hp : P i with
    | true =>
      rw [hp] at h
      simp only [if_true, Option.some.injEq] at h
      subst h
      exact ⟨Nat.le_refl _, by omega, hp, fun j _ _ => by omega⟩
    | false =>
      rw [hp] at h
      obtain ⟨h1, h2, h3, h4⟩ := firstB_some (by simpa using h)
      refine ⟨by omega, by omega, h3, fun j hj hjr => ?_⟩
      by_cases e : j = i
      · subst e
        exact hp
      · exact h4 j (by omega) hjr
theorem firstB_none {P : Nat → Bool} : ∀ {d i : Nat}, firstB P d i = none → ∀ j, i ≤ j → j < i + d → P j = false
  | 0, i, _, j, _, _ => by omega
  | d + 1, i, h, j, hj, hjd => by
    unfold firstB at h
    cases hp : P i with
    | true => rw [hp] at h; simp at h
    | false =>
      rw [hp] at h
      by_cases e : j = i
      · subst e
        exact hp
      · exact firstB_none (by simpa using h) j (by omega) (by omega)

/-- The choice: for each need in turn the first free item that serves and leaves enough. -/
def choice (N : Nat) (us : Int → Nat → Bool) : (Nat → Bool) → List Int → List Nat
  | _, [] => []
  | tk, n :: rest => match firstB (fun i => !tk i && us n i && enoughB N us (put tk i) rest) N 0 with
    | some i => i :: choice N us (put tk i) rest
    | none => choice N us tk rest

theorem choice_length {N : Nat} {okd : Nat → Bool} {lim : Nat → Int} : ∀ {needs : List Int} {tk : Nat → Bool}, enoughB N (serves okd lim) tk needs = true → (choice N (serves okd lim) tk needs).length = needs.length
  | [], _, _ => rfl
  | n :: rest, tk, h => by
    obtain ⟨i, hi, ht, hs, he⟩ := hall h
    unfold choice
    cases hf : firstB (fun i => !tk i && serves okd lim n i && enoughB N (serves okd lim) (put tk i) rest) N 0 with
    | none =>
      have := firstB_none hf i (by omega) (by omega)
      simp [ht, hs, he] at this
    | some r =>
      obtain ⟨_, _, h3, _⟩ := firstB_some hf
      simp only [Bool.and_eq_true] at h3
      simp only [List.length_cons]
      rw [choice_length h3.2]

/-- The places from i on at which p holds. -/
def placesB (p : Nat → Bool) : Nat → Nat → List Int
  | 0, _ => []
  | d + 1, i => if p i then (i : Int) :: placesB p d (i + 1) else placesB p d (i + 1)

theorem mem_places {p : Nat → Bool} {x : Int} : ∀ {d i : Nat}, x ∈ placesB p d i ↔ ∃ j, i ≤ j ∧ j < i + d ∧ p j = true ∧ x = (j : Int)
  | 0, i => by
    constructor
    · intro h; simp [placesB] at h
    · rintro ⟨j, h1, h2, _⟩; omega
  | d + 1, i => by
    have ih := mem_places (p := p) (x := x) (d := d) (i := i + 1)
    unfold placesB
    cases hp : p i with
    | true =>
      simp only [if_true, List.mem_cons, ih]
      constructor
      · rintro (rfl | ⟨j, h1, h2, h3, h4⟩)
        · exact ⟨i, Nat.le_refl _, by omega, hp, rfl⟩
        · exact ⟨j, by omega, by omega, h3, h4⟩
      · rintro ⟨j, h1, h2, h3, h4⟩
        by_cases e : j = i
        · subst e
          exact .inl h4
        · exact .inr ⟨j, by omega, by omega, h3, h4⟩
    | false =>
      simp only [Bool.false_eq_true, if_false, ih]
      constructor
      · rintro ⟨j, h1, h2, h3, h4⟩
        exact ⟨j, by omega, by omega, h3, h4⟩
      · rintro ⟨j, h1, h2, h3, h4⟩
        by_cases e : j = i
        · subst e
          rw [hp] at h3
          cases h3
        · exact ⟨j, by omega, by omega, h3, h4⟩

theorem places_length (p : Nat → Bool) : ∀ d i, (placesB p d i).length ≤ d
  | 0, _ => Nat.le_refl _
  | d + 1, i => by
    have := places_length p d (i + 1)
    unfold placesB
    split
    · simp; omega
    · omega

theorem places_cnt (tk u : Nat → Bool) : ∀ (d i : Nat), (placesB (fun j => !tk j && u j) d i).length + cnt i tk u = cnt (i + d) tk u
  | 0, i => by simp [placesB]
  | d + 1, i => by
    have ih := places_cnt tk u d (i + 1)
    have e : cnt (i + 1) tk u = cnt i tk u + if !tk i && u i then 1 else 0 := rfl
    rw [show i + (d + 1) = i + 1 + d by omega, ← ih, e]
    have e2 : placesB (fun j => !tk j && u j) (d + 1) i = if (!tk i && u i) = true then (i : Int) :: placesB (fun j => !tk j && u j) d (i + 1) else placesB (fun j => !tk j && u j) d (i + 1) := rfl
    rw [e2]
    cases (!tk i && u i) with
    | true => simp only [if_true, List.length_cons]; omega
    | false => simp only [Bool.false_eq_true, if_false]; omega

theorem cnt_all : ∀ N : Nat, cnt N (fun _ => false) (fun _ => true) = N
  | 0 => rfl
  | N + 1 => by
    unfold cnt
    rw [cnt_all N]
    rfl

theorem cnt_list {N : Nat} : ∀ {xs : List Nat}, xs.Nodup → (∀ x ∈ xs, x < N) → cnt N (fun i => decide (i ∈ xs)) (fun _ => true) + xs.length = N
  | [], _, _ => by simp [cnt_all]
  | q :: xs, hd, hl => by
    have ih := cnt_list (List.nodup_cons.1 hd).2 (fun x hx => hl x (List.mem_cons_of_mem _ hx))
    have hq := (List.nodup_cons.1 hd).1
    have h := cnt_put (fun i => decide (i ∈ xs)) (fun _ => true) (i := q) (decide_eq_false hq) (hl q List.mem_cons_self)
    have e : (fun i => decide (i ∈ q :: xs)) = put (fun i => decide (i ∈ xs)) q := by
      funext i
      by_cases c : i = q
      · subst c
        simp [put]
      · have : (i == q) = false := by
          rw [beq_eq_false_iff_ne]
          exact c
        simp [put, c]
    rw [e, List.length_cons]
    simp only [if_true] at h
    omega

theorem choice_props {N : Nat} {okd : Nat → Bool} {lim : Nat → Int} : ∀ {needs : List Int} {tk : Nat → Bool}, enoughB N (serves okd lim) tk needs = true →
    (choice N (serves okd lim) tk needs).Nodup ∧ (∀ x ∈ choice N (serves okd lim) tk needs, x < N ∧ tk x = false) ∧
    ∀ (i x : Nat) (n : Int), (choice N (serves okd lim) tk needs)[i]? = some x → needs[i]? = some n → serves okd lim n x = true
  | [], _, _ => by simp [choice]
  | n :: rest, tk, h => by
    obtain ⟨i, hi, ht, hs, he⟩ := hall h
    have hx : choice N (serves okd lim) tk (n :: rest) = match firstB (fun i => !tk i && serves okd lim n i && enoughB N (serves okd lim) (put tk i) rest) N 0 with
      | some i => i :: choice N (serves okd lim) (put tk i) rest
      | none => choice N (serves okd lim) tk rest := rfl
    rw [hx]
    cases hf : firstB (fun i => !tk i && serves okd lim n i && enoughB N (serves okd lim) (put tk i) rest) N 0 with
    | none =>
      have := firstB_none hf i (by omega) (by omega)
      simp [ht, hs, he] at this
    | some r =>
      obtain ⟨_, h2, h3, _⟩ := firstB_some hf
      simp only [Bool.and_eq_true, Bool.not_eq_true'] at h3
      obtain ⟨p1, p2, p3⟩ := choice_props h3.2
      refine ⟨List.nodup_cons.2 ⟨fun hm => ?_, p1⟩, ?_, ?_⟩
      · have := (p2 r hm).2
        simp [put] at this
      · intro x hx
        rcases List.mem_cons.1 hx with rfl | hx
        · exact ⟨by omega, h3.1.1⟩
        · have := p2 x hx
          refine ⟨this.1, ?_⟩
          have h := this.2
          simp only [put, Bool.or_eq_false_iff] at h
          exact h.2
      · intro i x m hx hm
        cases i with
        | zero =>
          simp only [List.getElem?_cons_zero, Option.some.injEq] at hx hm
          subst hx hm
          exact h3.1.2
        | succ i =>
          simp only [List.getElem?_cons_succ] at hx hm
          exact p3 i x m hx hm

end Go.Proofs.Ytkooomnoofnfpaa.Equip
