import Derived.Test.YtlacjcdhfoeekaaTv8
set_option linter.unusedSimpArgs false
set_option linter.unusedVariables false
namespace Go.TV
open Go.RowKit
set_option linter.unusedVariables false
set_option linter.unusedSimpArgs false

def appendTo (σ : Store) (nx size bytes : Nat) (s : V) (row : List V) (m : Nat) : Res :=
  match s with
  | .nil => if m = 0 then some (.nil, σ, nx) else if m ≤ maxLen ∧ m * bytes ≤ 140737488355328 then some (.rs nx 0 m, evBox σ nx row size, nx + 1) else none
  | .rs b off len => match σ b with
    | some B => if m = 0 then some (.rs b off len, σ, nx) else
      if off + (len + m) * size ≤ B.cells.length then
        if B.wr = true ∧ B.st = size ∧ row.all isCell = true then some (.rs b off (len + m), upd σ b (some { B with cells := patch B.cells (off + len * size) row }), nx) else none
      else if off + len * size = B.cells.length ∧ B.st = size ∧ len + m ≤ maxLen ∧ (len + m) * bytes ≤ 140737488355328 ∧ row.all isCell = true then
        some (.rs nx 0 (len + m), upd (upd σ b none) nx (some ⟨B.cells.drop off ++ row, size, B.wr⟩), nx + 1)
      else none
    | none => none
  | _ => none

def evAppend (P : Program) (ts : Array TypeId) (s x : V) (σ : Store) (nx : Nat) : Res :=
  match ts[0]?, ts[1]? with
  | some t, some t2 => match P.underlying t, t2 == t with
    | some (.slice elem), true => match P.info? elem with
      | some i => match i.zero with
        | some z => if z.cells.size = i.size ∧ 0 < i.size then
            match rowOf σ i.size x with
            | some (row, m) => appendTo σ nx i.size i.bytes s row m
            | none => none
          else none
        | none => none
      | none => none
    | _, _ => none
  | _, _ => none

theorem Inv.kill {s : Sit} {σ : Store} (h : Inv s σ) (b : Nat) : Inv s (upd σ b none) ∧ Nxt s σ s (upd σ b none) := by
  have q : ∀ {i : Nat} {A : Blk}, upd σ b none i = some A → i ≠ b ∧ σ i = some A := fun {i A} h => by
    by_cases hib : i = b
    · subst hib; rw [upd_same] at h; cases h
    · exact ⟨hib, by rw [upd_ne _ _ hib] at h; exact h⟩
  exact ⟨⟨fun i B hB => h.blk i B (q hB).2, fun b1 b2 B1 B2 l1 l2 h1 h2 => h.dis b1 b2 B1 B2 l1 l2 (q h1).2 (q h2).2, h.zb⟩,
    ⟨.refl s, fun _ _ z => .inl z, fun _ _ _ => rfl, fun i B l h1 h2 => .inr ⟨i, B, l, (q h1).2, h2, rfl⟩, Nat.le_refl _, rfl, rfl, rfl⟩⟩

theorem Inv.freeze {s : Sit} {σ : Store} (h : Inv s σ) {b : Nat} {B : Blk} (hb : σ b = some B) {wr : Bool} (hw : wr = true → B.wr = true) : Inv s (upd σ b (some { B with wr := wr })) := by
  have q : ∀ {i : Nat} {A : Blk}, upd σ b (some { B with wr := wr }) i = some A → ∃ A', σ i = some A' ∧ A.cells = A'.cells ∧ A.st = A'.st ∧ (A.wr = true → A'.wr = true) := fun {i A} h => by
    by_cases hib : i = b
    · subst hib; rw [upd_same] at h; cases h; exact ⟨B, hb, rfl, rfl, hw⟩
    · exact ⟨A, by rw [upd_ne _ _ hib] at h; exact h, rfl, rfl, id⟩
  refine ⟨fun i A hA => ?_, fun b1 b2 B1 B2 l1 l2 h1 h2 => ?_, h.zb⟩
  · obtain ⟨A', h1, h2, h3, h4⟩ := q hA
    obtain ⟨l, c, e, g1, g2, g3, g4, g5, g6, g7⟩ := h.blk i A' h1
    refine ⟨l, c, e, g1, g2, g3, by rw [h2]; exact g4, by rw [h3]; exact g5, by rw [h2]; exact g6, fun o z => ?_⟩
    obtain ⟨z1, z2⟩ := g7 o z
    refine ⟨?_, by rw [h2]; exact z2⟩
    cases hA : A.wr with
    | false => rfl
    | true => rw [h4 hA] at z1; cases z1
  · obtain ⟨A1, e1, _⟩ := q h1
    obtain ⟨A2, e2, _⟩ := q h2
    exact h.dis b1 b2 A1 A2 l1 l2 e1 e2

/-- A block that is nobody's is written where no tree reads. -/
theorem Inv.scribble {s : Sit} {σ : Store} (h : Inv s σ) {k p : Nat} {c : Array Value} {e : TypeId} (hk : s.w.heap[k]? = some (.cells c e (0, 0))) {xs : List Value} (hfit : p + xs.length ≤ c.size)
    (hfree : ∀ b B l, σ b = some B → s.β b = some l → l.k ≠ k) (hz : ∀ o, s.Z k o → o < p) :
    let w' := s.w.setRow k (c.toList.take p ++ xs ++ c.toList.drop (p + xs.length)).toArray
    Le s { s with w := w' } ∧ Inv { s with w := w' } σ := by
  intro w'
  have hk' : w'.heap[k]? = some (.cells (c.toList.take p ++ xs ++ c.toList.drop (p + xs.length)).toArray e (0, 0)) := setRow_heap s.w k c _ e (0, 0) hk
  have hcl : c.toList.length = c.size := Array.length_toList
  have hle : Le s { s with w := w' } := ⟨fun _ _ z => z, fun k' o z => by
    by_cases hkk : k' = k
    · subst hkk
      have := hz o z
      show w'.cell? _ = _
      rw [cell_at hk', cell_at hk, List.getElem?_toArray, getElem?_patch (by omega), if_neg (by omega), Array.getElem?_toList]
    · exact World.cell?_of_block (setRow_heap_ne s.w k _ hkk), fun _ _ e => e⟩
  have hsz : w'.heap.size = s.w.heap.size := by simp [w', World.setRow]
  refine ⟨hle, ⟨fun b B hB => ?_, h.dis, fun k o z => by show k < w'.heap.size; rw [hsz]; exact h.zb k o z⟩⟩
  obtain ⟨l, c1, e1, g1, g2, g3, g4, g5, g6, g7⟩ := h.blk b B hB
  exact ⟨l, c1, e1, g1, (setRow_heap_ne s.w k _ (hfree b B l hB g1)).trans g2, g3, g4, g5, fun i v hv => let ⟨x, hx, hr⟩ := g6 i v hv; ⟨x, hx, VR_mono hle v x hr⟩, g7⟩

section
variable {P : Program}

theorem run_append_zero {w : World} {t ty e : TypeId} {i : TypeInfo} (ht : P.underlying t = some (.slice e)) (hi : P.info? e = some i) (base a : Option Addr) (sLen sCap c : Nat) (hle : sLen ≤ sCap) :
    (Builtin.append_ #[t, t] ty #[.slice base sLen sCap, .slice a 0 c]).run P w = .ok (.slice base sLen sCap) w := by
  have hf : (Builtin.firstCells i.size 0 (.slice a 0 c)).run P w = .ok #[] w := by
    cases a <;> simp [Builtin.firstCells, loadCells, loadCellsFrom]
  cases base <;> simp [Builtin.append_, run_underlying ht, sizeOf, typeInfo, hi, Builtin.lenOf, hle, hf, storeCells]

theorem run_append_room_at {w : World} {t ty e : TypeId} {i : TypeInfo} (ht : P.underlying t = some (.slice e)) (hi : P.info? e = some i)
    (g o sLen sCap : Nat) (cur : Array Value) (e2 : TypeId) (hg : w.heap[g]? = some (.cells cur e2 (0, 0)))
    (a : Addr) (m c : Nat) (news : List Value) (hl : news.length = m * i.size) (hnews : ∀ (j : Nat) (u : Value), news[j]? = some u → w.cell? (a.add j) = some u) (h1 : ∀ u ∈ news, u.oneCell' = true)
    (hroom : sLen + m ≤ sCap) (hfit : o + sLen * i.size + news.length ≤ cur.size) :
    (Builtin.append_ #[t, t] ty #[.slice (some ⟨g, o, none⟩) sLen sCap, .slice (some a) m c]).run P w =
      .ok (.slice (some ⟨g, o, none⟩) (sLen + m) sCap) (w.setRow g (cur.toList.take (o + sLen * i.size) ++ news ++ cur.toList.drop (o + sLen * i.size + news.length)).toArray) := by
  have hf := run_firstCells_some (P := P) w i.size m a m c news hl hnews
  have hst := run_storeCells_at P g (o + sLen * i.size) e2 news 0 cur w hg (by simpa using hfit) h1
  simp only [Nat.add_zero] at hst
  simp [Builtin.append_, run_underlying ht, sizeOf, typeInfo, hi, Builtin.lenOf, hroom, hf, Addr.add_lit, hst]

theorem append_sound {s : Sit} {σ : Store} (hi : Inv s σ) {nx nx' : Nat} {σ' : Store} {ts : Array TypeId} {ty : TypeId} {d x v : V} {yd yx : Value} (h : evAppend P ts d x σ nx = some (v, σ', nx')) (h2 : ts.size = 2) (hn : Fresh s nx nx') (hd : VR s d yd) (hx : VR s x yx) :
    ∃ s' y, (Builtin.append_ ts ty #[yd, yx]).run P s.w = .ok y s'.w ∧ Out s σ nx s' v y σ' nx' := by
  unfold evAppend at h
  split at h
  · rename_i t t2 ht0 ht1
    obtain rfl : ts = #[t, t2] := by
      apply Array.ext'
      rcases ts with ⟨l⟩
      rcases l with _ | ⟨a, _ | ⟨b, _ | ⟨c, l⟩⟩⟩ <;> simp_all
    split at h
    · rename_i elem hund hteq
      obtain rfl : t = t2 := (by simpa using hteq : t2 = t).symm
      split at h
      · rename_i i hinf
        split at h
        · rename_i z hz
          split at h
          · rename_i hc
            obtain ⟨hzs, hs0⟩ := hc
            split at h
            · rename_i row m hrow
              obtain ⟨ao, xc, rfl, hxc, hrl, hread⟩ := rowOf_sound hi hx hrow
              unfold appendTo at h
              split at h
              · -- nil
                unfold VR at hd
                obtain ⟨a0, rfl⟩ := hd
                split at h
                · rename_i hm
                  simp only [Option.some.injEq, Prod.mk.injEq] at h; obtain ⟨rfl, rfl, rfl⟩ := h
                  subst hm
                  exact ⟨s, _, run_append_zero hund hinf a0 ao 0 0 xc (Nat.le_refl _), Out.same hi (by unfold VR; exact ⟨_, rfl⟩)⟩
                · rename_i hm
                  split at h
                  · rename_i hb
                    simp only [Option.some.injEq, Prod.mk.injEq] at h; obtain ⟨rfl, rfl, rfl⟩ := h
                    rcases hread with rfl | ⟨k, o, rfl, cs, hcs, hrd⟩
                    · exfalso
                      rcases Nat.mul_eq_zero.1 (by simpa using hrl.symm) with e | e <;> omega
                    · have hcl : cs.length = m * i.size := by rw [← VRs_length hcs, hrl]
                      have hml : m ≤ 9223372036854775807 := by have := hb.1; unfold maxLen at this; omega
                      have hrun : ∃ cap, m ≤ cap ∧ (Builtin.append_ #[t, t] ty #[.slice a0 0 0, .slice (some ⟨k, o, none⟩) m xc]).run P s.w =
                          .ok (.slice (some ⟨s.w.heap.size, 0, none⟩) m cap) (s.w.drew.alloc (.cells (cs.toArray ++ Builtin.zeroCells z.cells (cap - m)) elem)) := by
                        cases a0 with
                        | none => exact ⟨_, grownCap_ge s.w m 0 elem, run_append_nil s.w t ty elem i z hund hinf hz ⟨k, o, none⟩ m xc cs hcl (fun j v hv => by rw [Addr.add_lit]; exact hrd j v hv) (by omega) (by omega) (by omega)⟩
                        | some b0 =>
                          have := run_append_grow (P := P) s.w t ty elem i z hund hinf hz b0 0 0 [] (by simp) (by simp) ⟨k, o, none⟩ m xc cs hcl (fun j v hv => by rw [Addr.add_lit]; exact hrd j v hv) (by omega) (by omega) (growslice_fits (by omega) (by simpa using hb.2))
                          simp only [Nat.zero_add, List.nil_append, show (([] : List Value).toArray) = #[] from rfl, Array.empty_append] at this
                          exact ⟨_, by have := grownCap_ge s.w m 0 elem; omega, this⟩
                      obtain ⟨cap, hcap, hrun⟩ := hrun
                      have hcsz : (cs.toArray ++ Builtin.zeroCells z.cells (cap - m)).size = cap * i.size := by
                        rw [Array.size_append, size_zeroCells, hzs, List.size_toArray, hcl, ← Nat.add_mul]; congr 1; omega
                      obtain ⟨s', g1, g2, g3, g4, g5⟩ := alloc_out hi hn (w1 := s.w.drew) (Below.refl _ _).drew rfl row i.size (cap * i.size) elem (cs.toArray ++ Builtin.zeroCells z.cells (cap - m)) hcsz.symm
                        (by rw [hrl]; exact Nat.mul_le_mul_right _ hcap) (fun j u hu => by
                          obtain ⟨y, hy, hr⟩ := VRs_get hcs hu
                          refine ⟨y, ?_, hr⟩
                          rw [Array.getElem?_append_left (by rw [List.size_toArray]; exact (List.getElem?_eq_some_iff.1 hy).1), List.getElem?_toArray]; exact hy)
                      refine ⟨s', _, by rw [g1]; exact hrun, ⟨?_, g3, g4, g5⟩⟩
                      unfold VR; exact ⟨_, cap, g2, rfl, hcap, by simp⟩
                  · cases h
              · -- rs
                rename_i b off len
                split at h
                · rename_i B hb
                  have hd0 := hd
                  unfold VR at hd
                  obtain ⟨l, cap, hl, rfl, hcap, hend⟩ := hd
                  obtain ⟨l', c, e, g1, g2, g3, g4, g5, g6, g7⟩ := hi.blk b B hb
                  rw [hl] at g1; cases g1
                  split at h
                  · rename_i hm
                    simp only [Option.some.injEq, Prod.mk.injEq] at h; obtain ⟨rfl, rfl, rfl⟩ := h
                    subst hm
                    exact ⟨s, _, run_append_zero hund hinf _ ao len cap xc hcap, Out.same hi hd0⟩
                  · rename_i hm
                    rcases hread with rfl | ⟨k, o, rfl, cs, hcs, hrd⟩
                    · exfalso
                      rcases Nat.mul_eq_zero.1 (by simpa using hrl.symm) with e | e <;> omega
                    · have hcl : cs.length = m * i.size := by rw [← VRs_length hcs, hrl]
                      have hrd' : ∀ (j : Nat) (u : Value), cs[j]? = some u → s.w.cell? ((⟨k, o, none⟩ : Addr).add j) = some u := fun j v hv => by rw [Addr.add_lit]; exact hrd j v hv
                      split at h
                      · rename_i hfit
                        split at h
                        · rename_i hcw
                          obtain ⟨hw, hst, hall⟩ := hcw
                          simp only [Option.some.injEq, Prod.mk.injEq] at h; obtain ⟨rfl, rfl, rfl⟩ := h
                          have hroom : len + m ≤ cap := by
                            rw [g5, hst] at hend
                            exact Nat.le_of_mul_le_mul_right (by omega) hs0
                          have e1 : (len + m) * i.size = len * i.size + m * i.size := Nat.add_mul _ _ _
                          have hrun := run_append_room_at (P := P) (ty := ty) hund hinf l.k (l.o + off) len cap c e g2 ⟨k, o, none⟩ m xc cs hcl hrd' (oneCells_of hcs hall) hroom (by omega)
                          have hwo := write_out hi hb hw hl g2 (off := off + len * i.size) hcs (by omega)
                          rw [patch_eq _ _ _ (by omega)]
                          simp only [← Nat.add_assoc] at hwo hrun ⊢
                          refine ⟨_, _, hrun, ⟨?_, hwo.1, hwo.2, fun i h => .inl h⟩⟩
                          unfold VR; exact ⟨l, cap, hl, rfl, hroom, hend⟩
                        · cases h
                      · rename_i hnfit
                        split at h
                        · rename_i hcw
                          obtain ⟨htail, hst, hmax, hbytes, hall⟩ := hcw
                          simp only [Option.some.injEq, Prod.mk.injEq] at h; obtain ⟨rfl, rfl, rfl⟩ := h
                          obtain ⟨hk1, hk2⟩ := hi.kill b
                          have hnn : s.β nx = none := hn nx (Nat.le_refl _) (by omega)
                          have hfree : ∀ b' B' l', upd σ b none b' = some B' → s.β b' = some l' → l'.k ≠ l.k := fun b' B' l' h1 h2 e => by
                            by_cases hbb : b' = b
                            · subst hbb; rw [upd_same] at h1; cases h1
                            · rw [upd_ne _ _ hbb] at h1; exact hbb (hi.dis b' b B' B l' l h1 hb h2 hl e)
                          by_cases hroom : len + m ≤ cap
                          · -- in place
                            have e1 : (len + m) * i.size = len * i.size + m * i.size := Nat.add_mul _ _ _
                            have e2 : (len + m) * i.size ≤ cap * i.size := Nat.mul_le_mul_right _ hroom
                            rw [g5, hst] at hend
                            have hrun := run_append_room_at (P := P) (ty := ty) hund hinf l.k (l.o + off) len cap c e g2 ⟨k, o, none⟩ m xc cs hcl hrd' (oneCells_of hcs hall) hroom (by omega)
                            have hsc := hk1.scribble (k := l.k) (p := l.o + off + len * i.size) g2 (xs := cs) (by omega) hfree (fun o' z => by have := (g7 o' z).2; omega)
                            obtain ⟨hle, hinv⟩ := hsc
                            have hcl2 : c.toList.length = c.size := Array.length_toList
                            have hk' := setRow_heap s.w l.k c (c.toList.take (l.o + off + len * i.size) ++ cs ++ c.toList.drop (l.o + off + len * i.size + cs.length)).toArray e (0, 0) g2
                            obtain ⟨hle2, hinv2⟩ := hinv.add (nx := nx) hnn (k := l.k) (o := l.o + off) (cap := cap * i.size) (st := i.size) (cells := B.cells.drop off ++ row) (wr := B.wr) hk' hfree
                              (fun o' z => by have := g7 o' z; simp only [List.length_append, List.length_drop]; exact ⟨this.1, by omega⟩)
                              (by rw [List.size_toArray]; simp only [List.length_append, List.length_take, List.length_drop]; omega)
                              (by simp only [List.length_append, List.length_drop]; omega)
                              (fun j u hu => by
                                rw [List.getElem?_toArray, getElem?_patch (by omega)]
                                by_cases hj : j < (B.cells.drop off).length
                                · rw [List.getElem?_append_left hj, List.getElem?_drop] at hu
                                  simp only [List.length_drop] at hj
                                  obtain ⟨y, hy, hr⟩ := g6 _ u hu
                                  rw [if_neg (by omega), Array.getElem?_toList]
                                  exact ⟨y, by rw [Nat.add_assoc]; exact hy, VR_mono hle u y hr⟩
                                · rw [List.getElem?_append_right (by omega)] at hu
                                  simp only [List.length_drop] at hj hu
                                  have hjl : j - (B.cells.length - off) < row.length := (List.getElem?_eq_some_iff.1 hu).1
                                  obtain ⟨y, hy, hr⟩ := VRs_get hcs hu
                                  rw [if_pos (by omega), show l.o + off + j - (l.o + off + len * i.size) = j - (B.cells.length - off) by omega]
                                  exact ⟨y, hy, VR_mono hle u y hr⟩)
                            have hsz : (s.w.setRow l.k (c.toList.take (l.o + off + len * i.size) ++ cs ++ c.toList.drop (l.o + off + len * i.size + cs.length)).toArray).heap.size = s.w.heap.size := by simp [World.setRow]
                            refine ⟨_, _, hrun, ⟨?_, hinv2, ⟨hle.trans hle2, fun k o z => .inl z, fun k' hk1 hk2 => setRow_heap_ne s.w l.k _ (fun e => hk2 b B l hb hl e.symm), fun b' B' l' h1 h2 => ?_, by rw [hsz]; exact Nat.le_refl _, rfl, rfl, rfl⟩, fun j hj => ?_⟩⟩
                            · unfold VR; exact ⟨_, cap, upd_same _ _ _, by simp, hroom, by simp⟩
                            · by_cases hbn : b' = nx
                              · subst hbn
                                have : l' = ⟨l.k, l.o + off, cap * i.size, i.size⟩ := by simpa only [upd_same, Option.some.injEq, eq_comm] using h2
                                subst this
                                exact .inr ⟨b, B, l, hb, hl, rfl⟩
                              · rw [upd_ne _ _ hbn] at h1
                                by_cases hbb : b' = b
                                · subst hbb; rw [upd_same] at h1; cases h1
                                · rw [upd_ne _ _ hbb] at h1
                                  exact .inr ⟨b', B', l', h1, by simpa only [upd_ne _ _ hbn] using h2, rfl⟩
                            · by_cases hbn : j = nx
                              · subst hbn; exact .inr ⟨Nat.le_refl _, by omega⟩
                              · exact .inl (by simpa only [upd_ne _ _ hbn] using hj)
                          · -- new memory
                            have hold : ((B.cells.drop off).length) = len * i.size := by simp only [List.length_drop]; omega
                            obtain ⟨os, hos, hord⟩ := (hi.reads hb hl).drop off
                            have hosl : os.length = len * i.size := by rw [← VRs_length hos, hold]
                            have hml : len + m ≤ 9223372036854775807 := by have := hmax; unfold maxLen at this; omega
                            have hrun := run_append_grow (P := P) s.w t ty elem i z hund hinf hz ⟨l.k, l.o + off, none⟩ len cap os hosl (fun j v hv => by rw [Addr.add_lit]; exact hord j v hv) ⟨k, o, none⟩ m xc cs hcl hrd' (by omega) (by omega) (growslice_fits (by omega) hbytes)
                            have hge := grownCap_ge s.w (len + m) cap elem
                            generalize grownCap s.w (len + m) cap elem = gc at hrun hge
                            have e1 : (len + m) * i.size = len * i.size + m * i.size := Nat.add_mul _ _ _
                            have hcsz : (os.toArray ++ cs.toArray ++ Builtin.zeroCells z.cells (gc - (len + m))).size = gc * i.size := by
                              rw [Array.size_append, Array.size_append, size_zeroCells, hzs, List.size_toArray, List.size_toArray, hcl, hosl, ← e1, ← Nat.add_mul]; congr 1; omega
                            have hgm : (len + m) * i.size ≤ gc * i.size := Nat.mul_le_mul_right _ hge
                            obtain ⟨s', p1, p2, p3, p4, p5⟩ := alloc_out hk1 hn (w1 := s.w.drew) (Below.refl _ _).drew rfl (B.cells.drop off ++ row) i.size (gc * i.size) elem _ hcsz.symm
                              (by simp only [List.length_append, hold, hrl]; omega) (fun j u hu => by
                                have hcomb := VRs_append hos hcs
                                obtain ⟨y, hy, hr⟩ := VRs_get hcomb hu
                                refine ⟨y, ?_, hr⟩
                                rw [Array.getElem?_append_left (by
                                  have := (List.getElem?_eq_some_iff.1 hy).1
                                  simp only [List.length_append] at this
                                  rw [Array.size_append, List.size_toArray, List.size_toArray]; exact this)]
                                simpa using hy)
                            have hwr : Inv s' (upd (upd σ b none) nx (some ⟨B.cells.drop off ++ row, i.size, B.wr⟩)) := by
                              have := p3.freeze (b := nx) (B := ⟨B.cells.drop off ++ row, i.size, true⟩) (wr := B.wr) (by unfold evBox; rw [upd_same]) (fun _ => rfl)
                              have he : upd (evBox (upd σ b none) nx (B.cells.drop off ++ row) i.size) nx (some { cells := B.cells.drop off ++ row, st := i.size, wr := B.wr }) = upd (upd σ b none) nx (some ⟨B.cells.drop off ++ row, i.size, B.wr⟩) := by
                                funext j; unfold evBox upd; split <;> rfl
                              rw [he] at this; exact this
                            have hnxt : Nxt s (upd σ b none) s' (upd (upd σ b none) nx (some ⟨B.cells.drop off ++ row, i.size, B.wr⟩)) := by
                              refine ⟨p4.le, p4.zn, p4.kb, fun b' B' l' h1 h2 => ?_, p4.hs, p4.os, p4.tape, p4.output⟩
                              by_cases hbn : b' = nx
                              · subst hbn
                                exact p4.nb b' ⟨B.cells.drop off ++ row, i.size, true⟩ l' (by unfold evBox; rw [upd_same]) h2
                              · rw [upd_ne _ _ hbn] at h1
                                exact p4.nb b' B' l' (by unfold evBox; rw [upd_ne _ _ hbn]; exact h1) h2
                            refine ⟨s', _, by rw [p1]; exact hrun, ⟨?_, hwr, hk2.trans hnxt, p5⟩⟩
                            unfold VR; exact ⟨_, gc, p2, rfl, hge, by simp⟩
                        · cases h
                · cases h
              · cases h
            · cases h
          · cases h
        · cases h
      · cases h
    · cases h
  · cases h

end
end Go.TV
