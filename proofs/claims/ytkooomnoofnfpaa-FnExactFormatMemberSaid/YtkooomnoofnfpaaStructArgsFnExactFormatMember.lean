/-
  The laws' own walks over structures: weighed, copied, compared.
  Conditions: none.
-/
import Derived.Test.YtkooomnoofnfpaaStructDFnExactFormatMember
namespace Go.Proofs.Ytkooomnoofnfpaa.StructArgsFnExactFormatMember
set_option linter.unusedSimpArgs false
set_option linter.unusedVariables false
open Go.RowKit Go.Proofs.YtkooomnoofnfpaaW.PrintWords Go.Proofs.YtkooomnoofnfpaaW.PrintLast Go.Proofs.YtkooomnoofnfpaaW.PrintMore Go.Proofs.Ytkooomnoofnfpaa.EvW Go.Proofs.Ytkooomnoofnfpaa.PFnExactFormatMember Go.Proofs.Ytkooomnoofnfpaa.StockB Go.Proofs.Ytkooomnoofnfpaa.StructDFnExactFormatMember

abbrev Lj := S110
abbrev Lm := S116
def toJt (x : Lj) : Jt := ⟨x.f0, x.f1, x.f2, x.f3⟩
def toMb (x : Lm) : Mb := ⟨x.f0, x.f1, x.f2⟩
theorem rdlj_nat (l : List Lj) (i : Nat) (h : i < l.length) : rd_T110 l (i : Int) = l[i] := by
  simp [rd_T110, List.getD, h]
theorem rdlm_nat (l : List Lm) (i : Nat) (h : i < l.length) : rd_T116 l (i : Int) = l[i] := by
  simp [rd_T116, List.getD, h]

theorem sz_joint (x : Lj) (n : Int) : ∃ z, laws_szJoint.f x.f0 x.f1 x.f2 x.f3 n = some z := by
  unfold laws_szJoint.f
  split <;> exact ⟨_, rfl⟩

theorem sz_joints (l : List Lj) (hl : l.length ≤ 140737488351232) (n : Int) : ∃ z, Ev (fun k => laws_szJointS.f k l n) z := by
  unfold laws_szJointS.f
  split
  · exact ⟨_, Ev.now _⟩
  · have key : ∀ (d i : Nat), i + d = l.length → ∀ m : Int, ∃ z, Ev (fun k => laws_szJointS.l0 k l m (i : Int)) z := by
      intro d
      induction d with
      | zero =>
        intro i hi m
        exact ⟨m, Ev.step (fun k => by simp only [laws_szJointS.l0]; rw [if_neg (by omega)]) (Ev.now _)⟩
      | succ d ih =>
        intro i hi m
        have hlt : i < l.length := by omega
        obtain ⟨z, hz⟩ := sz_joint l[i] m
        obtain ⟨y, hy⟩ := ih (i + 1) (by omega) z
        rw [show ((i + 1 : Nat) : Int) = (i : Int) + 1 by omega] at hy
        by_cases hz0 : z < 0
        · exact ⟨-1, Ev.step (f := fun _ => some (-1)) (fun k => by simp only [laws_szJointS.l0]; rw [if_pos (by omega), if_pos (by omega), rdlj_nat l i hlt, hz]; simp only [Option.bind_some]; rw [if_pos hz0]) (Ev.now _)⟩
        · exact ⟨y, Ev.step (fun k => by simp only [laws_szJointS.l0]; rw [if_pos (by omega), if_pos (by omega), rdlj_nat l i hlt, hz]; simp only [Option.bind_some]; rw [if_neg hz0, wrap_id (by omega) (by omega)]) hy⟩
    exact key l.length 0 (by omega) _

theorem sz_struct (l : List Lj) (m : List Lm) (hl : l.length ≤ 140737488351232) (n : Int) : ∃ z, Ev (fun k => laws_szStructure.f k l m n) z := by
  obtain ⟨z, hz⟩ := sz_joints l hl n
  simp only [laws_szStructure.f, bind_eq hz]
  split
  · exact ⟨_, Ev.now _⟩
  · unfold laws_szMemberS.f
    split
    · simp only [Option.bind_some]
      split <;> exact ⟨_, Ev.now _⟩
    · simp only [Option.bind_some]
      split <;> exact ⟨_, Ev.now _⟩

theorem to_joints (l : List Lj) (hl : l.length * 40 ≤ 140737488351232) : Ev (fun k => laws_toJointS.f k l) (l.map toJt) := by
  unfold laws_toJointS.f
  simp only [if_pos (show (0 : Int) ≤ (l.length : Int) by omega), Int.toNat_natCast, if_pos (show l.length ≤ 7036874417766 by omega)]
  refine ev_fill (fun k x i => laws_toJointS.l0 k l x i) toJt _ l ?_ ?_
  · intro x i h r hx hr
    exact Ev.step (f := fun k => laws_toJointS.l0 k l (x.set i (toJt l[i])) ((i : Int) + 1)) (fun k => by simp only [laws_toJointS.l0]; rw [if_pos (by omega), if_pos (by omega), rdlj_nat l i h]; simp only [laws_toJoint.f, Option.bind_some]; rw [if_pos (by omega), wrap_id (by omega) (by omega), Int.toNat_natCast]; rfl) hr
  · intro x hx
    exact Ev.step (fun k => by simp only [laws_toJointS.l0]; rw [if_neg (by omega)]) (Ev.now _)

theorem to_members (l : List Lm) (hl : l.length * 24 ≤ 140737488351232) : Ev (fun k => laws_toMemberS.f k l) (l.map toMb) := by
  unfold laws_toMemberS.f
  simp only [if_pos (show (0 : Int) ≤ (l.length : Int) by omega), Int.toNat_natCast, if_pos (show l.length ≤ 11728124029610 by omega)]
  refine ev_fill (fun k x i => laws_toMemberS.l0 k l x i) toMb _ l ?_ ?_
  · intro x i h r hx hr
    exact Ev.step (f := fun k => laws_toMemberS.l0 k l (x.set i (toMb l[i])) ((i : Int) + 1)) (fun k => by simp only [laws_toMemberS.l0]; rw [if_pos (by omega), if_pos (by omega), rdlm_nat l i h]; simp only [laws_toMember.f, Option.bind_some]; rw [if_pos (by omega), wrap_id (by omega) (by omega), Int.toNat_natCast]; rfl) hr
  · intro x hx
    exact Ev.step (fun k => by simp only [laws_toMemberS.l0]; rw [if_neg (by omega)]) (Ev.now _)

theorem to_struct (l : List Lj) (m : List Lm) (hl : l.length * 40 ≤ 140737488351232) (hm : m.length * 24 ≤ 140737488351232) : Ev (fun k => laws_toStructure.f k l m) (l.map toJt, m.map toMb) := by
  simp only [laws_toStructure.f, bind_eq (to_joints l hl), bind_eq (to_members m hm), ev_some]

theorem eq_joints (l : List Jt) (hl : l.length ≤ 140737488351232) : Ev (fun k => laws_eqJointS.f k l l) true := by
  unfold laws_eqJointS.f
  simp only [if_true]
  have key : ∀ (d i : Nat), i + d = l.length → Ev (fun k => laws_eqJointS.l0 k l l (i : Int)) true := by
    intro d
    induction d with
    | zero =>
      intro i hi
      exact Ev.step (fun k => by simp only [laws_eqJointS.l0]; rw [if_neg (by omega)]) (Ev.now _)
    | succ d ih =>
      intro i hi
      have hlt : i < l.length := by omega
      have hy := ih (i + 1) (by omega)
      rw [show ((i + 1 : Nat) : Int) = (i : Int) + 1 by omega] at hy
      exact Ev.step (fun k => by simp only [laws_eqJointS.l0, laws_eqJoint.f, if_true, bne_self_eq_false, Bool.false_eq_true, if_false, Option.bind_some]; rw [if_pos (by omega), if_pos (by omega), if_pos (by omega), wrap_id (by omega) (by omega)]) hy
  exact key l.length 0 (by omega)

theorem eq_members (l : List Mb) (hl : l.length ≤ 140737488351232) : Ev (fun k => laws_eqMemberS.f k l l) true := by
  unfold laws_eqMemberS.f
  simp only [if_true]
  have key : ∀ (d i : Nat), i + d = l.length → Ev (fun k => laws_eqMemberS.l0 k l l (i : Int)) true := by
    intro d
    induction d with
    | zero =>
      intro i hi
      exact Ev.step (fun k => by simp only [laws_eqMemberS.l0]; rw [if_neg (by omega)]) (Ev.now _)
    | succ d ih =>
      intro i hi
      have hlt : i < l.length := by omega
      have hy := ih (i + 1) (by omega)
      rw [show ((i + 1 : Nat) : Int) = (i : Int) + 1 by omega] at hy
      exact Ev.step (fun k => by simp only [laws_eqMemberS.l0, laws_eqMember.f, if_true, Option.bind_some]; rw [if_pos (by omega), if_pos (by omega), if_pos (by omega), wrap_id (by omega) (by omega)]) hy
  exact key l.length 0 (by omega)

theorem eq_struct (l : List Jt) (m : List Mb) (hl : l.length ≤ 140737488351232) (hm : m.length ≤ 140737488351232) : Ev (fun k => laws_eqStructure.f k l m l m) true := by
  simp only [laws_eqStructure.f, bind_eq (eq_joints l hl), bind_eq (eq_members m hm), if_true, ev_some]

end Go.Proofs.Ytkooomnoofnfpaa.StructArgsFnExactFormatMember
