import Derived.Test.YtlacjcdhfoeekaaTv3
import Derived.Laws.MakeOwn
import Derived.Laws.OwnMore
import Derived.Laws.BytesString
set_option linter.unusedSimpArgs false
set_option linter.unusedVariables false
namespace Go.TV
open Go.RowKit
set_option linter.unusedVariables false

theorem VR_sc {s : Sit} {u : Value} (h : atom u = true) : VR s (.sc u) u := by unfold VR; exact ⟨rfl, h⟩

theorem VR_ofCell (s : Sit) (v : Value) : VR s (ofCell v) v := by
  unfold ofCell
  split
  · split
    · rename_i a n m h; obtain ⟨rfl, rfl⟩ := h; unfold VR; exact ⟨_, rfl⟩
    · unfold VR; trivial
  · split
    · split
      · rename_i h; obtain ⟨rfl, rfl⟩ := h; unfold VR; exact ⟨#[], rfl, by unfold VRs; rfl⟩
      · unfold VR; trivial
    · unfold VR; trivial
  · split
    · rename_i h; exact VR_sc h
    · unfold VR; trivial

theorem VRs_map {s : Sit} (vs : List Value) : VRs s (vs.map ofCell) vs :=
  VRs_of (by simp) fun i v x hv hx => by
    simp only [List.getElem?_map, hx, Option.map_some, Option.some.injEq] at hv
    subst hv; exact VR_ofCell s x

theorem VR_ofVal (s : Sit) (v : Value) : VR s (ofVal v) v := by
  unfold ofVal
  split
  · rename_i cs; unfold VR; exact ⟨_, rfl, VRs_map _⟩
  · rename_i cs; unfold VR; exact ⟨_, rfl, VRs_map _⟩
  · exact VR_ofCell s _

theorem toCells_sound {s : Sit} : ∀ {vs : List V} {us xs : List Value}, toCells vs = some us → VRs s vs xs → xs = us
  | [], us, xs, h, hx => by simp only [toCells, Option.some.injEq] at h; unfold VRs at hx; rw [hx, h]
  | v :: vs, us, xs, h, hx => by
    unfold VRs at hx
    obtain ⟨y, ys, rfl, h1, h2⟩ := hx
    unfold toCells at h
    split at h
    · rename_i u us' e1 e2
      simp only [Option.some.injEq] at h; subst h
      rw [toCells_sound e2 h2]
      unfold toCell at e1
      split at e1
      · simp only [Option.some.injEq] at e1; subst e1
        unfold VR at h1; rw [h1.1]
      · cases e1
    · cases h

theorem toVal_sound {s : Sit} {v : V} {u x : Value} (h : toVal v = some u) (hx : VR s v x) : x = u := by
  unfold toVal at h
  split at h
  · simp only [Option.some.injEq] at h; subst h; unfold VR at hx; exact hx.1
  · rename_i vs
    unfold VR at hx
    obtain ⟨xs, rfl, hr⟩ := hx
    cases hc : toCells vs with
    | none => rw [hc] at h; cases h
    | some us =>
      rw [hc] at h
      simp only [Option.map_some, Option.some.injEq] at h
      rw [← h, ← toCells_sound hc hr]
  · cases h

theorem oneCell_of {s : Sit} {v : V} {x : Value} (hx : VR s v x) (h : isCell v = true) : x.oneCell' = true := by
  cases v <;> simp only [isCell, Bool.false_eq_true] at h <;> unfold VR at hx
  · obtain ⟨rfl, ha⟩ := hx; cases x <;> simp_all [atom, Value.oneCell']
  · obtain ⟨a, rfl⟩ := hx; rfl
  · obtain ⟨a, rfl, _⟩ := hx; rfl
  · obtain ⟨a, b, rfl, _⟩ := hx; rfl
  · obtain ⟨a, b, rfl, _⟩ := hx; rfl
  · obtain ⟨a, b, rfl, _⟩ := hx; rfl
  · obtain ⟨a, c, b, rfl, _⟩ := hx; rfl

theorem cellsOfV_sound {s : Sit} {v : V} {x : Value} {vs : List V} (h : cellsOfV v = some vs) (hx : VR s v x) : VRs s vs x.cells.toList := by
  unfold cellsOfV at h
  split at h
  · simp only [Option.some.injEq] at h; subst h
    unfold VR at hx
    obtain ⟨xs, rfl, hr⟩ := hx
    exact hr
  · split at h
    · rename_i hc
      simp only [Option.some.injEq] at h; subst h
      have h1 := oneCell_of hx hc
      have : x.cells = #[x] := by cases x <;> simp_all [Value.cells, Value.oneCell']
      rw [this]
      unfold VRs
      exact ⟨x, [], rfl, hx, by unfold VRs; rfl⟩
    · cases h

theorem oneCells_of {s : Sit} {vs : List V} {xs : List Value} (h : VRs s vs xs) (hc : vs.all isCell = true) : ∀ u ∈ xs, u.oneCell' = true := fun u hu => by
  obtain ⟨i, hi⟩ := List.mem_iff_getElem?.1 hu
  have hl : i < vs.length := by rw [VRs_length h]; exact (List.getElem?_eq_some_iff.1 hi).1
  obtain ⟨x, hx, hr⟩ := VRs_get h (i := i) (v := vs[i]) (by simp [hl])
  rw [hi] at hx; cases hx
  exact oneCell_of hr (List.all_eq_true.1 hc _ (List.getElem_mem hl))

section
variable {P : Program}

theorem run_isAgg {t : TypeId} {d : TypeDesc} (h : P.underlying t = some d) (w : World) : (isAgg t).run P w = .ok (isAggD d) w := by
  cases d <;> simp [isAgg, run_underlying h, isAggD]

theorem run_sizeOf {t : TypeId} {i : TypeInfo} (h : P.info? t = some i) (w : World) : (sizeOf t).run P w = .ok i.size w := by
  simp [sizeOf, typeInfo, h]

theorem load_sound {s : Sit} {σ : Store} (hi : Inv s σ) {a : V} {x : Value} (hx : VR s a x) {t : TypeId} {v : V} (h : evLoad P σ t a = some v) :
    ∃ y, (Instr.loadAt t x).run P s.w = .ok y s.w ∧ VR s v y := by
  unfold evLoad at h
  split at h
  · rename_i i d hinf hund
    split at h
    · rename_i hag
      cases hc : cellsAt σ a i.size with
      | none => rw [hc] at h; cases h
      | some vs =>
        rw [hc] at h
        simp only [Option.map_some, Option.some.injEq] at h; subst h
        obtain ⟨k, o, rfl, hl, cs, hr, hcs⟩ := cellsAt_sound hi hx hc
        have hll : cs.length = i.size := by rw [← hl, VRs_length hr]
        refine ⟨.agg cs.toArray, ?_, by unfold VR; exact ⟨_, rfl, hr⟩⟩
        have hlo := run_loadCells_list (P := P) s.w ⟨k, o, none⟩ cs (fun j v hv => by rw [Addr.add_lit]; exact hcs j v hv)
        rw [hll] at hlo
        simp [Instr.loadAt, Instr.sureAddr, loadVar, run_isAgg hund, hag, run_sizeOf hinf, hlo]
    · rename_i hag
      split at h
      · rename_i u hc
        simp only [Option.some.injEq] at h; subst h
        obtain ⟨k, o, rfl, hl, cs, hr, hcs⟩ := cellsAt_sound hi hx hc
        unfold VRs at hr
        obtain ⟨y, ys, rfl, hr, _⟩ := hr
        refine ⟨y, ?_, hr⟩
        have hc0 := hcs 0 y rfl
        rw [Nat.add_zero] at hc0
        simp [Instr.loadAt, Instr.sureAddr, loadVar, run_isAgg hund, hag, run_load, hc0]
      · cases h
  · cases h

theorem setRow_heap_ne (w : World) (g : Nat) (cs : Array Value) {k : Nat} (h : k ≠ g) : (w.setRow g cs).heap[k]? = w.heap[k]? := setRow_other w g k cs h

theorem getElem?_patch {α : Type} {l vs : List α} {off i : Nat} (h : off + vs.length ≤ l.length) :
    (l.take off ++ vs ++ l.drop (off + vs.length))[i]? = if off ≤ i ∧ i < off + vs.length then vs[i - off]? else l[i]? := by
  rw [List.append_assoc]
  by_cases h1 : i < off
  · rw [if_neg (by omega), List.getElem?_append_left (by simp; omega), List.getElem?_take, if_pos h1]
  · rw [List.getElem?_append_right (by simp; omega)]
    have : (l.take off).length = off := by simp; omega
    rw [this]
    by_cases h2 : i < off + vs.length
    · rw [if_pos ⟨by omega, h2⟩, List.getElem?_append_left (by omega)]
    · rw [if_neg (by omega), List.getElem?_append_right (by omega), List.getElem?_drop]
      congr 1; omega

/-- The store's block is written. -/
theorem write_out {s : Sit} {σ : Store} (hi : Inv s σ) {b : Nat} {B : Blk} (hb : σ b = some B) (hw : B.wr = true) {l : Loc} (hl : s.β b = some l) {c : Array Value} {e : TypeId} (hk : s.w.heap[l.k]? = some (.cells c e (0, 0)))
    {off : Nat} {vs : List V} {xs : List Value} (hr : VRs s vs xs) (hfit : off + vs.length ≤ B.cells.length) :
    let w' := s.w.setRow l.k (c.toList.take (l.o + off) ++ xs ++ c.toList.drop (l.o + off + xs.length)).toArray
    Inv { s with w := w' } (upd σ b (some { B with cells := B.cells.take off ++ vs ++ B.cells.drop (off + vs.length) })) ∧
    Nxt s σ { s with w := w' } (upd σ b (some { B with cells := B.cells.take off ++ vs ++ B.cells.drop (off + vs.length) })) := by
  intro w'
  have hlen := VRs_length hr
  obtain ⟨l', c', e', h1, h2, h3, h4, h5, h6, h7⟩ := hi.blk b B hb
  rw [hl] at h1; cases h1
  rw [hk] at h2; cases h2
  have hnz : ∀ o, ¬ s.Z l.k o := fun o z => by rw [(h7 o z).1] at hw; cases hw
  have hcell : ∀ k o, s.Z k o → w'.cell? ⟨k, o, none⟩ = s.w.cell? ⟨k, o, none⟩ := fun k o z =>
    World.cell?_of_block (setRow_heap_ne s.w l.k _ (fun e => hnz o (by rw [← e]; exact z)))
  have hle : Le s { s with w := w' } := ⟨fun _ _ z => z, hcell, fun _ _ e => e⟩
  have hsz : w'.heap.size = s.w.heap.size := by simp [w', World.setRow]
  have hcl : c.toList.length = c.size := Array.length_toList
  have hxl : l.o + off + xs.length ≤ c.toList.length := by omega
  refine ⟨⟨fun b' B' hB' => ?_, fun b1 b2 B1 B2 l1 l2 hb1 hb2 hl1 hl2 hkk => ?_, fun k o z => by show k < w'.heap.size; rw [hsz]; exact hi.zb k o z⟩, ⟨hle, fun k o z => .inl z, fun k hkl hn => ?_, fun b' B' l' hB' hl' => ?_, by show _ ≤ w'.heap.size; omega, rfl, rfl, rfl⟩⟩
  · by_cases hbb : b' = b
    · subst hbb
      rw [upd_same] at hB'
      simp only [Option.some.injEq] at hB'; subst hB'
      refine ⟨l, _, e, hl, setRow_heap s.w l.k c _ e (0, 0) hk, ?_, ?_, h5, fun i v hv => ?_, fun o z => absurd z (hnz o)⟩
      · rw [List.size_toArray]; simp only [List.length_append, List.length_take, List.length_drop]; omega
      · simp only [List.length_append, List.length_take, List.length_drop]; omega
      · rw [getElem?_patch hfit] at hv
        rw [List.getElem?_toArray, getElem?_patch hxl]
        split at hv
        · rename_i hio
          rw [if_pos (by omega)]
          obtain ⟨x, hx, hrx⟩ := VRs_get hr hv
          exact ⟨x, by rw [show l.o + i - (l.o + off) = i - off by omega]; exact hx, VR_mono hle v x hrx⟩
        · rename_i hio
          rw [if_neg (by omega)]
          obtain ⟨x, hx, hrx⟩ := h6 i v hv
          exact ⟨x, by rw [Array.getElem?_toList]; exact hx, VR_mono hle v x hrx⟩
    · rw [upd_ne _ _ hbb] at hB'
      obtain ⟨l1, c1, e1, g1, g2, g3, g4, g5, g6, g7⟩ := hi.blk b' B' hB'
      have hne : l1.k ≠ l.k := fun e => hbb (hi.dis b' b B' B l1 l hB' hb g1 hl e)
      exact ⟨l1, c1, e1, g1, (setRow_heap_ne s.w l.k _ hne).trans g2, g3, g4, g5, fun i v hv => let ⟨x, hx, hr⟩ := g6 i v hv; ⟨x, hx, VR_mono hle v x hr⟩, g7⟩
  · have q : ∀ {i : Nat} {A : Blk}, upd σ b (some { B with cells := B.cells.take off ++ vs ++ B.cells.drop (off + vs.length) }) i = some A → ∃ A', σ i = some A' := fun {i A} h => by
      by_cases hib : i = b
      · exact ⟨B, by rw [hib]; exact hb⟩
      · exact ⟨A, by rw [upd_ne _ _ hib] at h; exact h⟩
    obtain ⟨A1, hA1⟩ := q hb1
    obtain ⟨A2, hA2⟩ := q hb2
    exact hi.dis b1 b2 A1 A2 l1 l2 hA1 hA2 hl1 hl2 hkk
  · exact setRow_heap_ne s.w l.k _ (fun e => hn b B l hb hl e.symm)
  · by_cases hbb : b' = b
    · subst hbb; exact .inr ⟨b', B, l', hb, hl', rfl⟩
    · rw [upd_ne _ _ hbb] at hB'; exact .inr ⟨b', B', l', hB', hl', rfl⟩

theorem store_sound {s : Sit} {σ σ' : Store} (hi : Inv s σ) {a v : V} {x y : Value} (hx : VR s a x) (hy : VR s v y) {t : TypeId} (h : evStore P σ t a v = some σ') :
    ∃ w', (Instr.storeAt t x y).run P s.w = .ok () w' ∧ Inv { s with w := w' } σ' ∧ Nxt s σ { s with w := w' } σ' := by
  unfold evStore at h
  split at h
  · rename_i i b off vs hinf hcv
    split at h
    · rename_i B hb
      split at h
      · rename_i hc
        obtain ⟨hw, hsz, hfit, hall⟩ := hc
        simp only [Option.some.injEq] at h; subst h
        rw [patch_eq _ _ _ hfit]
        unfold VR at hx
        obtain ⟨l, hl, rfl⟩ := hx
        have hrs := cellsOfV_sound hcv hy
        have hone := oneCells_of hrs hall
        obtain ⟨l', c, e, h1, h2, h3, h4, h5, h6, h7⟩ := hi.blk b B hb
        rw [hl] at h1; cases h1
        have hlen := VRs_length hrs
        have hst := run_storeCells_at P l.k (l.o + off) e y.cells.toList 0 c s.w h2 (by omega) hone
        rw [Nat.add_zero] at hst
        have hycs : y.cells.size = i.size := by rw [← hsz, hlen, Array.length_toList]
        refine ⟨_, ?_, write_out hi hb hw hl h2 hrs hfit⟩
        simp [Instr.storeAt, Instr.sureAddr, storeVar, run_sizeOf hinf, hycs, hst]
      · cases h
    · cases h
  · cases h

end
end Go.TV
