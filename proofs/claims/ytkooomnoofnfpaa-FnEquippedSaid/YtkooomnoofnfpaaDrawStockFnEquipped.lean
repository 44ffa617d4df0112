/-
  The stock that is drawn is one.
  Conditions: none.
-/
import Derived.Test.YtkooomnoofnfpaaDrawFnEquipped
import Derived.Test.YtkooomnoofnfpaaStockDFnEquipped
namespace Go.Proofs.Ytkooomnoofnfpaa.DrawStockFnEquipped
set_option linter.unusedSimpArgs false
set_option linter.unusedVariables false
open Go.RowKit Go.Proofs.YtkooomnoofnfpaaW.PrintWords Go.Proofs.YtkooomnoofnfpaaW.PrintLast Go.Proofs.YtkooomnoofnfpaaW.PrintMore Go.Proofs.Ytkooomnoofnfpaa.EvW Go.Proofs.Ytkooomnoofnfpaa.PFnEquipped Go.Proofs.Ytkooomnoofnfpaa.StockB Go.Proofs.Ytkooomnoofnfpaa.NameB Go.Proofs.Ytkooomnoofnfpaa.StockDFnEquipped Go.Proofs.Ytkooomnoofnfpaa.DrawFnEquipped

def digit (n : Nat) : ByteArray := ⟨#[UInt8.ofNat (48 + n)]⟩
def nmOf (n : Nat) : ByteArray := ⟨#[115, UInt8.ofNat (48 + n)]⟩
def namesFrom : Nat → List ByteArray
  | 0 => []
  | n + 1 => nmOf (n + 1) :: namesFrom n

theorem small {n : Nat} (h : n ≤ 5) : n = 0 ∨ n = 1 ∨ n = 2 ∨ n = 3 ∨ n = 4 ∨ n = 5 := by omega

theorem digit_ev (n : Nat) (h : n ≤ 5) : Ev (fun k => spec_FormatInt.f k (n : Int)) (digit n) := by
  refine Ev.step (fun k => by simp only [spec_FormatInt.f]; rw [if_neg (by omega)]) ?_
  refine Ev.step (fun k => by simp only [spec_FormatInt.l0]; rw [if_neg (by omega)]) ?_
  have e : wrap64 (48 + (n : Int)) % 256 = ((48 + n : Nat) : Int) := by
    rw [wrap_id (by omega) (by omega)]
    omega
  have e2 : strOfNums [((48 + n : Nat) : Int)] ++ (⟨#[]⟩ : ByteArray) = digit n := ByteArray.ext (by rw [ByteArray.data_append]; rfl)
  simp only [Option.bind_some, e]
  rw [if_pos (show (strOfNums [((48 + n : Nat) : Int)]).size + (⟨#[]⟩ : ByteArray).size ≤ 9223372036854775807 by show 1 + 0 ≤ _; omega), e2]
  exact Ev.now _

theorem name_ok (n : Nat) (h : n ≤ 5) : nameB (nmOf n) = true := by
  rcases small h with rfl | rfl | rfl | rfl | rfl | rfl <;> rfl

theorem name_ne (a b : Nat) (ha : a ≤ 5) (hb : b ≤ 5) (h : a ≠ b) : ((nmOf a).toList == (nmOf b).toList) = false := by
  rw [beq_eq_false_iff_ne, ByteArray.toList_eq, ByteArray.toList_eq]
  rcases small ha with rfl | rfl | rfl | rfl | rfl | rfl <;> rcases small hb with rfl | rfl | rfl | rfl | rfl | rfl <;> first | exact absurd rfl h | decide

def Fine (x : It) : Prop := (0 ≤ x.f1 ∧ x.f1 ≤ 1000) ∧ 0 ≤ x.f2 ∧ x.f2 ≤ 10000

/-- What is drawn: m items, the last named s1. -/
theorem stock_loop (s0 : List Int) (hl : s0.length ≤ 140737488351232) : ∀ (m : Nat), m ≤ 5 → ∀ (x3 : List It) (s1 s2 : Int), x3.length + m ≤ 5 → 0 ≤ s1 →
    ∃ (L : List It) (a b : Int), Ev (fun k => spec_l26Stock.l0 k x3 (m : Int) s0 s1 s2) (x3 ++ L, a, b) ∧ L.map (·.f0) = namesFrom m ∧ ∀ x ∈ L, Fine x := by
  intro m
  induction m with
  | zero =>
    intro _ x3 s1 s2 _ h1
    exact ⟨[], s1, s2, Ev.step (fun k => by simp only [spec_l26Stock.l0]; rw [if_neg (by omega)]) (by simpa using Ev.now (x3, s1, s2)), rfl, fun x hx => by simp at hx⟩
  | succ m ih =>
    intro hm x3 s1 s2 hx h1
    obtain ⟨r1, a1, b1, e1, h11, h12, h13⟩ := below_some s0 s1 s2 20 hl h1 (by omega) (by omega)
    obtain ⟨r2, a2, b2, e2, h21, h22, h23⟩ := below_some s0 a1 b1 9 hl h13 (by omega) (by omega)
    obtain ⟨L, a, b, e3, hn, hf⟩ := ih (by omega) (x3 ++ [⟨nmOf (m + 1), r1, r2⟩]) a2 b2 (by simp; omega) h23
    refine ⟨⟨nmOf (m + 1), r1, r2⟩ :: L, a, b, ?_, by simp [namesFrom, hn], ?_⟩
    · refine Ev.step (fun k => by simp only [spec_l26Stock.l0]; rw [if_pos (by omega)]) ?_
      rw [bind_eq (digit_ev (m + 1) hm)]
      have hs : 1 + (digit (m + 1)).size ≤ 9223372036854775807 := by
        show 1 + 1 ≤ 9223372036854775807
        omega
      simp only [if_pos hs, e1, e2, Option.bind_some, if_pos (show x3.length < 4398046511104 by omega)]
      have hw : wrap64 (((m + 1 : Nat) : Int) - 1) = (m : Int) := by rw [wrap_id (by omega) (by omega)]; omega
      have hn1 : (⟨#[115]⟩ : ByteArray) ++ digit (m + 1) = nmOf (m + 1) := by
        exact ByteArray.ext (by rw [ByteArray.data_append]; rfl)
      simp only [hw, hn1]
      simpa using e3
    · intro x hx
      rcases List.mem_cons.1 hx with rfl | hx
      · exact ⟨⟨h11, by show r1 ≤ 1000; omega⟩, h21, by show r2 ≤ 10000; omega⟩
      · exact hf x hx

theorem names_any (m : Nat) (hm : m ≤ 5) : ∀ (i : Nat) (h : i < (namesFrom m).length), nameB (namesFrom m)[i] = true ∧ ((namesFrom m).take i).any (fun y => y.toList == (namesFrom m)[i].toList) = false := by
  have key : ∀ (m : Nat), m ≤ 5 → ∀ n ∈ namesFrom m, ∃ k, 1 ≤ k ∧ k ≤ m ∧ n = nmOf k := by
    intro m
    induction m with
    | zero => intro _ n hn; simp [namesFrom] at hn
    | succ m ih =>
      intro hm n hn
      simp only [namesFrom, List.mem_cons] at hn
      rcases hn with rfl | hn
      · exact ⟨m + 1, by omega, by omega, rfl⟩
      · obtain ⟨k, h1, h2, h3⟩ := ih (by omega) n hn
        exact ⟨k, h1, by omega, h3⟩
  induction m with
  | zero => intro i h; simp [namesFrom] at h
  | succ m ih =>
    intro i h
    cases i with
    | zero =>
      refine ⟨name_ok _ hm, by simp⟩
    | succ i =>
      have h' : i < (namesFrom m).length := by simpa [namesFrom] using h
      obtain ⟨h1, h2⟩ := ih (by omega) i h'
      obtain ⟨k, k1, k2, k3⟩ := key m (by omega) (namesFrom m)[i] (List.getElem_mem h')
      have e : (namesFrom (m + 1))[i + 1] = (namesFrom m)[i] := rfl
      rw [e]
      refine ⟨h1, ?_⟩
      rw [show namesFrom (m + 1) = nmOf (m + 1) :: namesFrom m from rfl, take_any_cons, h2, Bool.or_false, k3]
      exact name_ne _ _ hm (by omega) (by omega)

theorem stock_ok (m : Nat) (hm : m ≤ 5) (L : List It) (hn : L.map (·.f0) = namesFrom m) (hf : ∀ x ∈ L, Fine x) : stockB L = true ∧ L.length ≤ 5 ∧ ∀ x ∈ L, x.f0.size ≤ 140737488351232 := by
  have hlen : ∀ m, (namesFrom m).length = m := fun m => by
    induction m with
    | zero => rfl
    | succ m ih => simp [namesFrom, ih]
  have hL : L.length = m := by
    have := congrArg List.length hn
    rw [List.length_map, hlen] at this
    exact this
  have hi : ∀ (i : Nat) (h : i < L.length), L[i].f0 = (namesFrom m)[i]'(by rw [hlen, ← hL]; exact h) := by
    intro i h
    have : (L.map (·.f0))[i]'(by simpa using h) = (namesFrom m)[i]'(by rw [hlen, ← hL]; exact h) := by
      simp only [hn]
    rw [← this]
    simp
  refine ⟨?_, by omega, ?_⟩
  · unfold stockB
    rw [Bool.and_eq_true, decide_eq_true_eq, allUp_iff]
    refine ⟨by omega, fun i _ h => ?_⟩
    have h' : i < L.length := by omega
    obtain ⟨h1, h2⟩ := names_any m hm i (by rw [hlen, ← hL]; exact h')
    rw [okAt_eq L i h', Bool.and_eq_true]
    constructor
    · unfold itemB
      rw [hi i h', h1, Bool.true_and, decide_eq_true_eq]
      exact hf _ (List.getElem_mem h')
    · rw [← hi i h'] at h2
      have e : (L.take i).any (sameB L[i]) = ((namesFrom m).take i).any (fun y => y.toList == L[i].f0.toList) := by
        rw [← hn, ← List.map_take, List.any_map]
        rfl
      rw [e, h2]
      rfl
  · intro x hx
    obtain ⟨i, h, rfl⟩ := List.getElem_of_mem hx
    have : L[i].f0 ∈ namesFrom m := by
      rw [hi i h]
      exact List.getElem_mem _
    have sz : ∀ m, ∀ n ∈ namesFrom m, n.size = 2 := by
      intro m
      induction m with
      | zero => intro n hn; simp [namesFrom] at hn
      | succ m ih =>
        intro n hn
        simp only [namesFrom, List.mem_cons] at hn
        rcases hn with rfl | hn
        · rfl
        · exact ih n hn
    rw [sz m _ this]
    omega

theorem make_stock (l : List Int) (hl : l.length ≤ 140737488351232) : ∃ L, Ev (fun k => spec_MakeStock.f k l) L ∧ stockB L = true ∧ L.length ≤ 5 ∧ ∀ x ∈ L, x.f0.size ≤ 140737488351232 := by
  obtain ⟨b, hb⟩ := new_ev l hl
  obtain ⟨r, a1, b1, e, h0, h1, h2⟩ := below_some l 0 b 6 hl (Int.le_refl _) (by omega) (by omega)
  obtain ⟨m, rfl⟩ := Int.eq_ofNat_of_zero_le h0
  obtain ⟨L, a2, b2, e2, hn, hf⟩ := stock_loop l hl m (by omega) [] a1 b1 (by simp; omega) h2
  obtain ⟨s1, s2, s3⟩ := stock_ok m (by omega) L hn hf
  refine ⟨L, ?_, s1, s2, s3⟩
  simp only [spec_MakeStock.f, bind_eq hb, spec_l26Stock.f, e, Option.bind_some]
  have e3 : Ev (fun k => spec_l26Stock.l0 k [] (m : Int) l a1 b1) (L, a2, b2) := by simpa using e2
  simp only [bind_eq e3, ev_some]

end Go.Proofs.Ytkooomnoofnfpaa.DrawStockFnEquipped
