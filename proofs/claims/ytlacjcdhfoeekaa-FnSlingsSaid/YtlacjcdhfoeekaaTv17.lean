import Derived.Test.YtlacjcdhfoeekaaTv16
set_option linter.unusedSimpArgs false
set_option linter.unusedVariables false
namespace Go.TV
open Go.RowKit
set_option linter.unusedVariables false
set_option linter.unusedSimpArgs false

section
variable {P : Program} {conv : FuncId → Conv} {call : Call}

/-- The records of a lexical run. -/
theorem recs_of (hc : CallOk P call) {ops : Array Oper} : ∀ (l : List Oper) (i : Nat) (st st' : St) (fs : List (List Nat)), evOpsD P conv call ops l st = some (st', fs) →
    ∃ L : List Rec, RunD P conv call ops L st.T st.σ st'.T st'.σ ∧ L.length = l.length ∧ fs.length = l.length ∧ st.nx ≤ st'.nx ∧
      (∀ (j : Nat) (r : Rec), L[j]? = some r → r.i = i + j ∧ l[j]? = some r.o ∧ fs[j]? = some r.F ∧ st.nx ≤ r.lo ∧ r.lo ≤ r.hi ∧ r.hi ≤ st'.nx ∧ ∀ c ∈ r.F, c < r.lo) ∧
      L.Pairwise (fun a b => a.hi ≤ b.lo)
  | [], i, st, st', fs, h => by
    simp only [evOpsD, Option.some.injEq, Prod.mk.injEq] at h
    obtain ⟨rfl, rfl⟩ := h
    exact ⟨[], ⟨rfl, rfl⟩, rfl, rfl, Nat.le_refl _, fun j r h => by simp at h, .nil⟩
  | o :: l, i, st, st', fs, h => by
    have build : ∀ (T1 : Nat → V) (σ1 : Store) (nx1 : Nat) (F : List Nat) (fs' : List (List Nat)), stepD P conv call ops o st.nx st.T st.σ = some (T1, σ1, nx1, F) → st.nx ≤ nx1 → evOpsD P conv call ops l ⟨T1, σ1, nx1⟩ = some (st', fs') → fs = F :: fs' →
        ∃ L : List Rec, RunD P conv call ops L st.T st.σ st'.T st'.σ ∧ L.length = (o :: l).length ∧ fs.length = (o :: l).length ∧ st.nx ≤ st'.nx ∧
          (∀ (j : Nat) (r : Rec), L[j]? = some r → r.i = i + j ∧ (o :: l)[j]? = some r.o ∧ fs[j]? = some r.F ∧ st.nx ≤ r.lo ∧ r.lo ≤ r.hi ∧ r.hi ≤ st'.nx ∧ ∀ c ∈ r.F, c < r.lo) ∧ L.Pairwise (fun a b => a.hi ≤ b.lo) := by
      intro T1 σ1 nx1 F fs' hst hle hrest hfs
      obtain ⟨L, h1, h2, h3, h4, h5, h6⟩ := recs_of hc l (i + 1) ⟨T1, σ1, nx1⟩ st' fs' hrest
      obtain ⟨_, _, _, _, _, _, _, hlt, _⟩ := stepD_spec hst
      subst hfs
      refine ⟨⟨o, i, st.nx, nx1, F⟩ :: L, ⟨T1, σ1, hst, h1⟩, by simp [h2], by simp [h3], Nat.le_trans hle h4, fun j r hr => ?_, .cons (fun b hb => ?_) h6⟩
      · cases j with
        | zero =>
          simp only [List.getElem?_cons_zero, Option.some.injEq] at hr
          subst hr
          exact ⟨rfl, rfl, rfl, Nat.le_refl _, hle, h4, hlt⟩
        | succ j =>
          simp only [List.getElem?_cons_succ] at hr ⊢
          obtain ⟨e1, e2, e3, e4, e5, e6, e7⟩ := h5 j r hr
          simp only at e4
          exact ⟨by omega, e2, e3, by omega, e5, e6, e7⟩
      · obtain ⟨j, hj⟩ := List.mem_iff_getElem?.1 hb
        exact (h5 j b hj).2.2.2.1
    unfold evOpsD at h
    split at h
    · rename_i hw
      split at h
      · rename_i v σ' nx' he
        split at h
        · rename_i s' fs' hr
          simp only [Option.some.injEq, Prod.mk.injEq] at h
          obtain ⟨rfl, rfl⟩ := h
          have hle : st.nx ≤ nx' := by
            unfold evOpD at he
            split at he
            · split at he
              · rename_i e
                simp only [Option.some.injEq, Prod.mk.injEq] at he
                obtain ⟨_, _, rfl⟩ := he
                exact evOp_mono hc e
              · cases he
            · cases he
          exact build _ _ _ _ _ (by unfold stepD; rw [hw]; simp only [he]) hle hr rfl
        · cases h
      · cases h
    · rename_i hw
      split at h
      · rename_i s' fs' hr
        simp only [Option.some.injEq, Prod.mk.injEq] at h
        obtain ⟨rfl, rfl⟩ := h
        exact build _ _ _ _ _ (by unfold stepD; rw [hw]) (Nat.le_refl _) hr rfl
      · cases h
    · cases h

theorem mem_zipIdx_take {α : Type} {l : List α} {i j : Nat} {p : α} (hi : l[i]? = some p) (hij : i < j) : (p, i) ∈ (l.take j).zipIdx := by
  refine List.mem_zipIdx_iff_getElem?.2 ?_
  rw [List.getElem?_take, if_pos hij]; exact hi

theorem draw_sound (hc : CallOk P call) (hm : P.follows .mixedOrders = true) {ops : Array Oper} {id nt nxE : Nat} {s0 : Sit} {σ0 : Store} {nx0 : Nat} (hd : ∀ o ∈ ops.toList, ∀ d, o.dst = some d → d < nt) {Q : Exit → Act → World → Prop} {st st' : St}
    (h : evDraw P conv call ops st = some st') (hE : st'.nx ≤ nxE) (hQ : ∀ s a, Sim nt nxE s0 σ0 nx0 st'.T st'.σ st'.nx s a → Q .normal a s.w) {s : Sit} {a : Act} (hs : Sim nt nxE s0 σ0 nx0 st.T st.σ st.nx s a) :
    (Code.region id ops true).wp P Q a s.w := by
  unfold evDraw at h
  split at h
  · rename_i hord
    split at h
    · rename_i s' fs hrun
      split at h
      · rename_i hpairs
        simp only [Option.some.injEq] at h; subst h
        obtain ⟨L, h1, h2, h3, h4, h5, h6⟩ := recs_of hc ops.toList 0 st s' fs hrun
        have hordj : ∀ (j : Nat) (o : Oper), ops.toList[j]? = some o → (∀ e ∈ o.after, Region.binds .any e = true → e.on < j) ∧ ∀ (i : Nat) (p : Oper), i < j → ops.toList[i]? = some p → edgeOn o i = true ∨ p.apart ops o = true := by
          intro j o ho
          have := List.all_eq_true.1 hord (o, j) (List.mem_zipIdx_iff_getElem?.2 ho)
          simp only [Bool.and_eq_true] at this
          refine ⟨fun e he hb => ?_, fun i p hij hp => ?_⟩
          · have h := Array.all_eq_true'.1 this.1.1 e he
            rw [hb] at h
            simpa using h
          · have h := List.all_eq_true.1 this.2 (p, i) (mem_zipIdx_take hp hij)
            simpa using h
        have hpj : ∀ (i j : Nat) (p o : Oper), i < j → ops.toList[i]? = some p → ops.toList[j]? = some o → edgeOn o i ≠ true → (writer conv p = true ∨ writer conv o = true) → ∀ c ∈ (fs[i]?).getD [], c ∉ (fs[j]?).getD [] := by
          intro i j p o hij hp ho he hw c hc hc'
          have hmem : (i, j) ∈ wpairs conv ops.toList := by
            unfold wpairs
            refine List.mem_flatMap.2 ⟨(o, j), List.mem_zipIdx_iff_getElem?.2 ho, List.mem_filterMap.2 ⟨(p, i), mem_zipIdx_take hp hij, ?_⟩⟩
            simp only
            rw [if_neg he, if_pos]
            rcases hw with hw | hw <;> simp [hw]
          have := List.all_eq_true.1 hpairs (i, j) hmem
          have := List.all_eq_true.1 this c hc
          simp only [Bool.not_eq_true', List.contains_eq_mem, decide_eq_false_iff_not] at this
          exact this hc'
        have hto : ∀ (j : Nat), ops.toList[j]? = ops[j]? := fun j => Array.getElem?_toList
        have hok : RecsOk conv ops L := by
          refine ⟨fun r hr => ?_, ?_, fun r hr => ?_⟩
          · obtain ⟨j, hj⟩ := List.mem_iff_getElem?.1 hr
            obtain ⟨e1, e2, _⟩ := h5 j r hj
            rw [e1, Nat.zero_add, ← hto]; exact e2
          · rw [List.pairwise_iff_getElem]
            intro i j hi hj hij
            have q1 := List.getElem?_eq_getElem hi
            have q2 := List.getElem?_eq_getElem hj
            obtain ⟨a1, a2, a3, a4, a5, a6, a7⟩ := h5 i _ q1
            obtain ⟨b1, b2, b3, b4, b5, b6, b7⟩ := h5 j _ q2
            have hp := (List.pairwise_iff_getElem.1 h6) i j hi hj hij
            rw [Nat.zero_add] at a1 b1
            refine ⟨by omega, hp, ?_, fun c hc => Nat.lt_of_lt_of_le (Nat.lt_of_lt_of_le (a7 c hc) a5) hp⟩
            rw [a1]
            by_cases he : edgeOn L[j].o i = true
            · exact .inl he
            · refine .inr ⟨((hordj j _ b2).2 i _ hij a2).resolve_left he, fun hw c hc => ?_⟩
              have := hpj i j _ _ hij a2 b2 he hw c (by rw [a3]; exact hc)
              rw [b3] at this
              exact this
          · obtain ⟨j, hj⟩ := List.mem_iff_getElem?.1 hr
            exact (h5 j r hj).2.2.2.2.1
        refine wp_region_any hm ?_
        have hb0 : Below s.w.heap.size s.w { s.w with drawn := s.w.drawn + 1 } := ⟨rfl, rfl, rfl, Nat.le_refl _, fun _ _ => rfl⟩
        obtain ⟨hle, hinv, hnxt⟩ := hs.inv.grow hb0
        have hfin := any_sound hc (s0 := s0) (σ0 := σ0) (nt := nt) (lo0 := nx0) (hi0 := s'.nx) hd (T' := s'.T) (σ' := s'.σ) (Q := Q) (fun s1 a1 hs1 => hQ s1 a1 ⟨hs1.inv, hs1.tr, hs1.size, hs1.defers, hs1.nxt, hs1.dom, fun i g1 g2 => ?_, by have := hs.nx0; omega⟩)
          (fun i o ho => (hordj i o (by rw [hto]; exact ho)).1) L (Array.replicate ops.size false) st.T st.σ { s with w := { s.w with drawn := s.w.drawn + 1 } } a (by simp) (fun i hi => ?_) hok (fun r hr => ?_) h1
          ⟨hinv, hs.tr.mono hle, hs.size, hs.defers, hs.nxt.trans hnxt, fun i hi => ?_, fun r hr j g1 g2 => ?_⟩
        · rw [h2, Array.length_toList] at hfin
          exact hfin
        · -- no reference beyond
          cases hq : s1.β i with
          | none => rfl
          | some l =>
            exfalso
            rcases hs1.dom i (by rw [hq]; simp) with h | h
            · exact h (by
                cases hq0 : s0.β i with
                | none => rfl
                | some l0 =>
                  have := hs.nxt.le.bb i l0 hq0
                  rw [hs.fresh i (by omega) (by omega)] at this
                  cases this)
            · omega
        · constructor
          · intro _
            have hl : i < L.length := by rw [h2, Array.length_toList]; exact hi
            exact ⟨L[i], List.getElem_mem hl, by have := (h5 i _ (List.getElem?_eq_getElem hl)).1; omega⟩
          · intro _
            simp [hi]
        · obtain ⟨j, hj⟩ := List.mem_iff_getElem?.1 hr
          obtain ⟨_, _, _, e4, _, e6, _⟩ := h5 j r hj
          have := hs.nx0
          exact ⟨by omega, e6⟩
        · rcases hs.dom i hi with h | h
          · exact .inl h
          · exact .inr ⟨h.1, by omega⟩
        · obtain ⟨k, hk⟩ := List.mem_iff_getElem?.1 hr
          obtain ⟨_, _, _, e4, _, e6, _⟩ := h5 k r hk
          exact hs.fresh j (by omega) (by omega)
      · cases h
    · cases h
  · cases h

end
end Go.TV
