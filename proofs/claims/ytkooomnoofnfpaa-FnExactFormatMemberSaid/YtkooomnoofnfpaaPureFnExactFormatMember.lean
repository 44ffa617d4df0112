/-
  FormatMember answers as the reference's, for every structure and number, and leaves its argument as it was.
  Conditions: none.
-/
import Derived.Test.YtkooomnoofnfpaaStructSFnExactFormatMember
import Derived.Test.YtkooomnoofnfpaaStructIFnExactFormatMember
import Derived.Test.YtkooomnoofnfpaaStructArgsFnExactFormatMember
namespace Go.Proofs.Ytkooomnoofnfpaa.Pure
set_option linter.unusedSimpArgs false
set_option linter.unusedVariables false
open Go.RowKit Go.Proofs.YtkooomnoofnfpaaW.PrintWords Go.Proofs.YtkooomnoofnfpaaW.PrintLast Go.Proofs.YtkooomnoofnfpaaW.PrintMore Go.Proofs.Ytkooomnoofnfpaa.EvW Go.Proofs.Ytkooomnoofnfpaa.PFnExactFormatMember Go.Proofs.Ytkooomnoofnfpaa.NameB Go.Proofs.Ytkooomnoofnfpaa.StockB Go.Proofs.Ytkooomnoofnfpaa.StructDFnExactFormatMember Go.Proofs.Ytkooomnoofnfpaa.StructSFnExactFormatMember Go.Proofs.Ytkooomnoofnfpaa.StructIFnExactFormatMember Go.Proofs.Ytkooomnoofnfpaa.StructArgsFnExactFormatMember Go.Proofs.Ytkooomnoofnfpaa.NameSFnExactFormatMember

theorem mem_range {l : List Jt} {a b k : Int} (h : memOk l a b k = true) : 0 ≤ a ∧ a < (l.length : Int) ∧ 0 ≤ b ∧ b < (l.length : Int) ∧ 1 ≤ k ∧ k ≤ 3 := by
  unfold memOk at h
  by_cases q1 : a < 0
  · rw [if_pos q1] at h; cases h
  by_cases q2 : (l.length : Int) ≤ a
  · rw [if_neg q1, if_pos q2] at h; cases h
  by_cases q3 : b < 0
  · rw [if_neg q1, if_neg q2, if_pos q3] at h; cases h
  by_cases q4 : (l.length : Int) ≤ b
  · rw [if_neg q1, if_neg q2, if_neg q3, if_pos q4] at h; cases h
  by_cases q5 : k < 1
  · rw [if_neg q1, if_neg q2, if_neg q3, if_neg q4, if_pos q5] at h; cases h
  by_cases q6 : 3 < k
  · rw [if_neg q1, if_neg q2, if_neg q3, if_neg q4, if_neg q5, if_pos q6] at h; cases h
  omega

theorem struct_parts {l : List Jt} {m : List Mb} (h : structB l m = true) : l.length ≤ 6 ∧ m.length ≤ 8 ∧ (∀ i (hi : i < l.length), jointB l[i] = true) ∧ ∀ y ∈ m, memOk l y.f0 y.f1 y.f2 = true := by
  unfold structB at h
  simp only [Bool.and_eq_true, decide_eq_true_eq, List.all_eq_true] at h
  refine ⟨h.1, h.2.1, fun i hi => ?_, h.2.2.2⟩
  have := (allUp_iff (okJ l) l.length 0).1 h.2.2.1 i (Nat.zero_le _) (by omega)
  rw [okJ_eq l i hi, Bool.and_eq_true] at this
  exact this.1

theorem joint_size {x : Jt} (h : jointB x = true) : x.f0.size ≤ 8 := by
  unfold jointB nameB at h
  simp only [Bool.and_eq_true, decide_eq_true_eq] at h
  exact h.1.2.2

theorem kind_eq {k : Int} (h1 : 1 ≤ k) (h2 : k ≤ 3) : ∃ t, spec_KindName.f k = some t ∧ impl_KindName.f k = some t ∧ t.size ≤ 5 := by
  obtain rfl | rfl | rfl : k = 1 ∨ k = 2 ∨ k = 3 := by omega
  · exact ⟨⟨#[114, 111, 112, 101]⟩, by simp [spec_KindName.f, l01In_eq, wrap64, rdOf], rfl, by decide⟩
  · exact ⟨⟨#[115, 116, 114, 117, 116]⟩, by simp [spec_KindName.f, l01In_eq, wrap64, rdOf], rfl, by decide⟩
  · exact ⟨⟨#[98, 97, 114]⟩, by simp [spec_KindName.f, l01In_eq, wrap64, rdOf], rfl, by decide⟩

theorem member_eq (l : List Jt) (m : List Mb) (h : structB l m = true) (a : Int) (h1 : 0 ≤ a) (h2 : a < (m.length : Int)) :
    ∃ t, spec_l29Member.f l m (rd_T96 m a).f0 (rd_T96 m a).f1 (rd_T96 m a).f2 = some t ∧ impl_Structure_memberLine.f l m a = some t := by
  obtain ⟨hl, hm, hj, hmem⟩ := struct_parts h
  have hin : rd_T96 m a ∈ m := by
    have hlt : a.toNat < m.length := by omega
    have e := rdm_nat m a.toNat hlt
    rw [show ((a.toNat : Nat) : Int) = a by omega] at e
    rw [e]
    exact List.getElem_mem hlt
  have hok := hmem _ hin
  have sz : ∀ i : Int, 0 ≤ i → i < (l.length : Int) → (rd_T111 l i).f0.size ≤ 8 := by
    intro i hi0 hi1
    have hlt : i.toNat < l.length := by omega
    have e := rdj_nat l i.toNat hlt
    rw [show ((i.toNat : Nat) : Int) = i by omega] at e
    rw [e]
    exact joint_size (hj _ hlt)
  unfold impl_Structure_memberLine.f spec_l29Member.f
  generalize rd_T96 m a = y at *
  obtain ⟨q1, q2, q3, q4, q5, q6⟩ := mem_range hok
  obtain ⟨t, e1, e2, hts⟩ := kind_eq q5 q6
  have sx := sz _ q1 q2
  have sy := sz _ q3 q4
  have e32 : (⟨#[32]⟩ : ByteArray).size = 1 := rfl
  have l1 : t.size + 1 ≤ 9223372036854775807 := by omega
  have l2 : (t ++ (⟨#[32]⟩ : ByteArray)).size + (rd_T111 l y.f0).f0.size ≤ 9223372036854775807 := by rw [ByteArray.size_append, e32]; omega
  have l3 : ((t ++ (⟨#[32]⟩ : ByteArray)) ++ (rd_T111 l y.f0).f0).size + 1 ≤ 9223372036854775807 := by rw [ByteArray.size_append, ByteArray.size_append, e32]; omega
  have l4 : (((t ++ (⟨#[32]⟩ : ByteArray)) ++ (rd_T111 l y.f0).f0) ++ (⟨#[32]⟩ : ByteArray)).size + (rd_T111 l y.f1).f0.size ≤ 9223372036854775807 := by rw [ByteArray.size_append, ByteArray.size_append, ByteArray.size_append, e32]; omega
  refine ⟨((((t ++ (⟨#[32]⟩ : ByteArray)) ++ (rd_T111 l y.f0).f0) ++ (⟨#[32]⟩ : ByteArray)) ++ (rd_T111 l y.f1).f0), ?_, ?_⟩
  · simp only [e1, Option.bind_some, if_pos l1, if_pos q1, if_pos q2, if_pos l2, if_pos l3, if_pos q3, if_pos q4, if_pos l4]
  · simp only [if_pos h1, if_pos h2, e2, Option.bind_some, if_pos l1, if_pos q1, if_pos q2, if_pos l2, if_pos l3, if_pos q3, if_pos q4, if_pos l4]

theorem format_eq (l : List Jt) (m : List Mb) (a : Int) (hs : ∀ x ∈ l, x.f0.size ≤ 140737488351232) (hm : m.length ≤ 140737488351232) :
    ∃ t, Ev (fun k => spec_FormatMember.f k l m a) t ∧ Ev (fun k => impl_FormatMember.f k l m a) t := by
  have hh : Ev (fun k => impl_hasMember.f k l m a) (decide (0 ≤ a) && decide (a < (m.length : Int)) && structB l m) := by
    unfold impl_hasMember.f
    by_cases c1 : 0 ≤ a
    · by_cases c2 : a < (m.length : Int)
      · simp only [if_pos c1, if_pos c2, decide_eq_true c1, decide_eq_true c2, Bool.true_and]
        exact impl_struct l m hs
      · simp only [if_pos c1, if_neg c2, decide_eq_false c2, Bool.and_false, Bool.false_and]
        exact Ev.now _
    · simp only [if_neg c1, decide_eq_false c1, Bool.false_and]
      exact Ev.now _
  unfold spec_FormatMember.f impl_FormatMember.f
  simp only [bind_eq (spec_struct l m hs), bind_eq hh, l01In_eq, Option.bind_some, wrap_id (show -9223372036854775808 ≤ (m.length : Int) - 1 by omega) (show (m.length : Int) - 1 ≤ 9223372036854775807 by omega)]
  cases hB : structB l m with
  | false =>
    simp only [Bool.and_false, Bool.false_eq_true, if_false]
    exact ⟨_, Ev.now _, Ev.now _⟩
  | true =>
    by_cases c1 : 0 ≤ a
    · by_cases c2 : a < (m.length : Int)
      · obtain ⟨t, e1, e2⟩ := member_eq l m hB a c1 c2
        have c3 : 0 ≤ a ∧ a ≤ (m.length : Int) - 1 := by omega
        simp only [decide_eq_true c1, decide_eq_true c2, decide_eq_true c3, Bool.true_and, if_true, if_pos c1, if_pos c2, e1, e2, Option.bind_some]
        exact ⟨_, Ev.now _, Ev.now _⟩
      · have c3 : ¬ (0 ≤ a ∧ a ≤ (m.length : Int) - 1) := by omega
        simp only [decide_eq_false c2, decide_eq_false c3, Bool.and_false, Bool.false_and, if_true, Bool.false_eq_true, if_false]
        exact ⟨_, Ev.now _, Ev.now _⟩
    · have c3 : ¬ (0 ≤ a ∧ a ≤ (m.length : Int) - 1) := by omega
      simp only [decide_eq_false c1, decide_eq_false c3, Bool.false_and, if_true, Bool.false_eq_true, if_false]
      exact ⟨_, Ev.now _, Ev.now _⟩

theorem FnExactFormatMember (l : List Lj) (m : List Lm) (ok0 : ((∀ x ∈ l, x.f0.size ≤ 140737488351232 ∧ (Lit.int .i64 x.f1).wf = true ∧ (Lit.int .i64 x.f2).wf = true ∧ True) ∧ l.length * 40 ≤ 140737488351232 ∧ l.length ≤ maxLen) ∧ (∀ x ∈ m, (Lit.int .i64 x.f0).wf = true ∧ (Lit.int .i64 x.f1).wf = true ∧ (Lit.int .i64 x.f2).wf = true) ∧ m.length * 24 ≤ 140737488351232 ∧ m.length ≤ maxLen) (a : Int) (ok1 : (Lit.int .i64 a).wf = true) : ∃ k, laws_FnExactFormatMember.f k l m a = some true := by
  obtain ⟨⟨okj, hl, _⟩, _, hm, _⟩ := ok0
  refine Ev.rounds (g := fun k => laws_FnExactFormatMember.f k l m a) ?_
  obtain ⟨z, hz⟩ := sz_struct l m (by omega) 1048576
  have hn : ∀ x ∈ l.map toJt, x.f0.size ≤ 140737488351232 := by
    intro x hx
    obtain ⟨y, hy, rfl⟩ := List.mem_map.1 hx
    exact (okj y hy).1
  have hlm : (l.map toJt).length ≤ 140737488351232 := by rw [List.length_map]; omega
  have hmm : (m.map toMb).length ≤ 140737488351232 := by rw [List.length_map]; omega
  obtain ⟨t, t1, t2⟩ := format_eq (l.map toJt) (m.map toMb) a hn hmm
  simp only [laws_FnExactFormatMember.f, bind_eq hz]
  split
  · exact Ev.now _
  · simp only [bind_eq (to_struct l m hl hm), bind_eq t1, bind_eq t2, bind_eq (eq_struct _ _ hlm hmm), if_true, ev_some]

end Go.Proofs.Ytkooomnoofnfpaa.Pure
