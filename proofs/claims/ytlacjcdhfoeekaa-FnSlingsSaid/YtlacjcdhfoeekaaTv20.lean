import Derived.Test.YtlacjcdhfoeekaaTv19
set_option linter.unusedSimpArgs false
set_option linter.unusedVariables false
namespace Go.TV
set_option linter.unusedVariables false
set_option linter.unusedSimpArgs false

/-- What the equations ask of a type. -/
structure TyI where
  ok : Bool
  agg : Bool
  size : Nat
  zero : List V
  slice : Bool
  str : Bool
  ptr : Bool
  esz : Nat
  ebytes : Nat
  ezero : List V
  eok : Bool
  flds : List (Nat × Nat × Option Bool)
  plc : List (Nat × Nat)
  bok : Bool
  u8 : Bool

def zeroV (i : TypeInfo) : List V :=
  match i.zero with
  | some z => if z.cells.size = i.size then z.cells.toList.map ofCell else []
  | none => []
def zeroOk (i : TypeInfo) : Bool :=
  match i.zero with
  | some z => z.cells.size = i.size
  | none => false

def tyI0 (P : Program) (t : TypeId) : Option Bool := (P.underlying t).map isAggD

def tyI (P : Program) (t : TypeId) : TyI :=
  match P.info? t, P.underlying t with
  | some i, some d =>
    let e := match d with
      | .slice e => P.info? e
      | _ => none
    { ok := true, agg := isAggD d, size := i.size, zero := if zeroOk i then zeroV i else [], slice := d matches .slice _, str := d matches .string, ptr := d matches .pointer _,
      esz := (e.map (·.size)).getD 0, ebytes := (e.map (·.bytes)).getD 0, ezero := (e.map zeroV).getD [], eok := (e.map zeroOk).getD false,
      flds := match d with
        | .struct fs => fs.toList.map fun f => (f.offset, ((P.info? f.type).map (·.size)).getD 0, (tyI0 P f.type))
        | _ => []
      plc := match d with
        | .struct fs => ((evPure P (fs.mapM fun f => do pure (f.offset, ← sizeOf f.type))).map (·.toList)).getD []
        | _ => []
      bok := match d with
        | .struct fs => (evPure P (fs.mapM fun f => do pure (f.offset, ← sizeOf f.type))).isSome && zeroOk i
        | _ => false
      u8 := match d with
        | .slice e => (P.underlying e matches some (.int .u8)) && ((P.info? e).map (·.size)) == some 1
        | _ => false }
  | _, _ => ⟨false, false, 0, [], false, false, false, 0, 0, [], false, [], [], false, false⟩

section
variable {P : Program} {conv : FuncId → Conv} {call : Call} {σ : Store} {nx : Nat}

theorem tyI_ok {t : TypeId} (h : (tyI P t).ok = true) : ∃ i d, P.info? t = some i ∧ P.underlying t = some d ∧ (tyI P t).agg = isAggD d ∧ (tyI P t).size = i.size := by
  unfold tyI at h ⊢
  cases hi : P.info? t with
  | none => simp [hi] at h
  | some i =>
    cases hd : P.underlying t with
    | none => simp [hi, hd] at h
    | some d => exact ⟨i, d, rfl, rfl, rfl, rfl⟩

theorem tyI_slice {t : TypeId} (h : (tyI P t).slice = true) (he : (tyI P t).eok = true) : ∃ e i z, P.underlying t = some (.slice e) ∧ P.info? e = some i ∧ i.zero = some z ∧ z.cells.size = i.size ∧ (tyI P t).esz = i.size ∧ (tyI P t).ebytes = i.bytes ∧ (tyI P t).ezero = z.cells.toList.map ofCell := by
  unfold tyI at h he ⊢
  cases hi : P.info? t with
  | none => simp [hi] at h
  | some i =>
    cases hd : P.underlying t with
    | none => simp [hi, hd] at h
    | some d =>
      simp only [hi, hd] at h he ⊢
      cases d <;> simp at h
      rename_i e
      simp only at he ⊢
      cases hei : P.info? e with
      | none => simp [hei] at he
      | some ei =>
        simp only [hei, Option.map_some, Option.getD_some] at he ⊢
        unfold zeroOk at he
        cases hz : ei.zero with
        | none => simp [hz] at he
        | some z =>
          simp only [hz, decide_eq_true_eq] at he
          exact ⟨e, ei, z, rfl, hei, hz, he, rfl, rfl, by simp [zeroV, hz, he]⟩

theorem evLoad_tp {t : TypeId} {row : List V} {off : Nat} (h : (tyI P t).ok = true) (ha : (tyI P t).agg = false) : evLoad P σ t (.tp row off) = row[off]? := by
  obtain ⟨i, d, h1, h2, h3, h4⟩ := tyI_ok h
  rw [ha] at h3
  unfold evLoad
  simp only [h1, h2, ← h3, Bool.false_eq_true, if_false, cellsAt]
  by_cases hl : off < row.length
  · rw [if_pos (by omega), List.getElem?_eq_getElem hl]
    have : (row.drop off).take 1 = [row[off]] := by
      rw [List.drop_eq_getElem_cons hl]; rfl
    rw [this]
  · rw [if_neg (by omega), List.getElem?_eq_none (by omega)]

theorem evLoad_tpa {t : TypeId} {row : List V} {off : Nat} (h : (tyI P t).ok = true) (ha : (tyI P t).agg = true) : evLoad P σ t (.tp row off) = if off + (tyI P t).size ≤ row.length then some (.agg ((row.drop off).take (tyI P t).size)) else none := by
  obtain ⟨i, d, h1, h2, h3, h4⟩ := tyI_ok h
  rw [ha] at h3
  unfold evLoad
  simp only [h1, h2, ← h3, if_true, cellsAt, h4]
  split <;> rfl

theorem evLoad_rp {t : TypeId} {b off : Nat} (h : (tyI P t).ok = true) (ha : (tyI P t).agg = false) : evLoad P σ t (.rp b off) = (σ b).bind fun B => B.cells[off]? := by
  obtain ⟨i, d, h1, h2, h3, h4⟩ := tyI_ok h
  rw [ha] at h3
  unfold evLoad
  simp only [h1, h2, ← h3, Bool.false_eq_true, if_false, cellsAt]
  cases σ b with
  | none => rfl
  | some B =>
    simp only [Option.bind_some]
    by_cases hl : off < B.cells.length
    · rw [if_pos (by omega), List.getElem?_eq_getElem hl]
      have : (B.cells.drop off).take 1 = [B.cells[off]] := by
        rw [List.drop_eq_getElem_cons hl]; rfl
      rw [this]
    · rw [if_neg (by omega), List.getElem?_eq_none (by omega)]

theorem evLoad_rpa {t : TypeId} {b off : Nat} (h : (tyI P t).ok = true) (ha : (tyI P t).agg = true) : evLoad P σ t (.rp b off) = (σ b).bind fun B => if off + (tyI P t).size ≤ B.cells.length then some (.agg ((B.cells.drop off).take (tyI P t).size)) else none := by
  obtain ⟨i, d, h1, h2, h3, h4⟩ := tyI_ok h
  rw [ha] at h3
  unfold evLoad
  simp only [h1, h2, ← h3, if_true, cellsAt, h4]
  cases σ b with
  | none => rfl
  | some B => simp only [Option.bind_some]; split <;> rfl

theorem evStore_rp {t : TypeId} {b off : Nat} {v : V} (h : (tyI P t).ok = true) (hc : isCell v = true) (hs : (tyI P t).size = 1) : evStore P σ t (.rp b off) v = (σ b).bind fun B => if B.wr = true ∧ off < B.cells.length then some (upd σ b (some { B with cells := B.cells.set off v })) else none := by
  obtain ⟨i, d, h1, h2, h3, h4⟩ := tyI_ok h
  rw [hs] at h4
  have hv : cellsOfV v = some [v] := by cases v <;> simp_all [cellsOfV, isCell]
  unfold evStore
  simp only [h1, hv, ← h4, List.length_singleton, List.all_cons, List.all_nil, hc, Bool.and_true, and_true, true_and, patch]
  cases σ b with
  | none => rfl
  | some B => simp only [Option.bind_some]; rfl

theorem evStore_agg {t : TypeId} {b off : Nat} {vs : List V} (h : (tyI P t).ok = true) : evStore P σ t (.rp b off) (.agg vs) = (σ b).bind fun B => if B.wr = true ∧ vs.length = (tyI P t).size ∧ off + vs.length ≤ B.cells.length ∧ vs.all isCell = true then some (upd σ b (some { B with cells := patch B.cells off vs })) else none := by
  obtain ⟨i, d, h1, h2, h3, h4⟩ := tyI_ok h
  unfold evStore
  simp only [h1, h4, cellsOfV]
  cases σ b with
  | none => rfl
  | some B => simp only [Option.bind_some]

theorem flds_spec {t : TypeId} {f : Nat} (h : (tyI P t).ok = true) :
    (∃ fields fd, P.underlying t = some (.struct fields) ∧ fields[f]? = some fd ∧ (tyI P t).flds[f]? = some (fd.offset, ((P.info? fd.type).map (·.size)).getD 0, tyI0 P fd.type)) ∨
    ((tyI P t).flds[f]? = none ∧ ∀ fields, P.underlying t = some (.struct fields) → fields[f]? = none) := by
  obtain ⟨i, d, h1, h2, h3, h4⟩ := tyI_ok h
  unfold tyI
  simp only [h1, h2]
  cases d <;> try (refine .inr ⟨rfl, fun fields e => by cases e⟩)
  rename_i fs
  simp only [List.getElem?_map, Array.getElem?_toList]
  cases hf : fs[f]? with
  | none => exact .inr ⟨rfl, fun fields e => by cases e; exact hf⟩
  | some fd => exact .inl ⟨fs, fd, rfl, hf, rfl⟩

theorem evField_tp {t : TypeId} {row : List V} {off f : Nat} (h : (tyI P t).ok = true) : evFieldAddr P t (.tp row off) f = ((tyI P t).flds[f]?).bind fun p => if p.2.1 = 0 then none else some (.tp row (off + p.1)) := by
  rcases flds_spec (f := f) h with ⟨fields, fd, h1, h2, h3⟩ | ⟨h1, h2⟩
  · unfold evFieldAddr
    simp only [h1, h2, h3, Option.bind_some]
    cases P.info? fd.type <;> rfl
  · unfold evFieldAddr
    rw [h1]
    cases hu : P.underlying t with
    | none => rfl
    | some d => cases d <;> first | (simp; done) | (rename_i fs; simp [h2 fs hu])

theorem evField_rp {t : TypeId} {b off f : Nat} (h : (tyI P t).ok = true) : evFieldAddr P t (.rp b off) f = ((tyI P t).flds[f]?).bind fun p => if p.2.1 = 0 then none else some (.rp b (off + p.1)) := by
  rcases flds_spec (f := f) h with ⟨fields, fd, h1, h2, h3⟩ | ⟨h1, h2⟩
  · unfold evFieldAddr
    simp only [h1, h2, h3, Option.bind_some]
    cases P.info? fd.type <;> rfl
  · unfold evFieldAddr
    rw [h1]
    cases hu : P.underlying t with
    | none => rfl
    | some d => cases d <;> first | (simp; done) | (rename_i fs; simp [h2 fs hu])

theorem evField_agg {t : TypeId} {cs : List V} {f : Nat} (h : (tyI P t).ok = true) (hk : ((tyI P t).flds.all fun p => decide (0 < p.2.1)) = true) : evField P t (.agg cs) f = ((tyI P t).flds[f]?).bind fun p => match p.2.2 with
    | some true => some (.agg ((cs.drop p.1).take p.2.1))
    | some false => cs[p.1]?
    | none => none := by
  rcases flds_spec (f := f) h with ⟨fields, fd, h1, h2, h3⟩ | ⟨h1, h2⟩
  · unfold evField
    simp only [h1, h2, h3, Option.bind_some]
    have hp := List.all_eq_true.1 hk _ (List.mem_of_getElem? h3)
    simp only [decide_eq_true_eq] at hp
    unfold evPart tyI0
    cases hi : P.info? fd.type with
    | none => simp [hi] at hp
    | some i =>
      cases hu : P.underlying fd.type with
      | none => simp
      | some d => cases hd : isAggD d <;> simp [hd]
  · unfold evField
    rw [h1]
    cases hu : P.underlying t with
    | none => simp
    | some d => cases d <;> first | (simp; done) | (rename_i fs; simp [h2 fs hu])

theorem evIndex_ts {t : TypeId} {row : List V} {len : Nat} {k : IntKind} {i : Int} (h : (tyI P t).slice = true) (he : (tyI P t).eok = true) : evIndexAddr P t (.ts row len) (.sc (.int k i)) = if 0 ≤ i ∧ i < len ∧ row ≠ [] then some (.tp row (i.toNat * (tyI P t).esz)) else none := by
  obtain ⟨e, ei, z, h1, h2, _, _, h5, _, _⟩ := tyI_slice h he
  unfold evIndexAddr
  simp only [h1, h2, h5]

theorem evIndex_rs {t : TypeId} {b off len : Nat} {k : IntKind} {i : Int} (h : (tyI P t).slice = true) (he : (tyI P t).eok = true) : evIndexAddr P t (.rs b off len) (.sc (.int k i)) = if 0 ≤ i ∧ i < len then some (.rp b (off + i.toNat * (tyI P t).esz)) else none := by
  obtain ⟨e, ei, z, h1, h2, _, _, h5, _, _⟩ := tyI_slice h he
  unfold evIndexAddr
  simp only [h1, h2, h5]

theorem evMake_eq {t : TypeId} {l c : Int} (h : (tyI P t).slice = true) (he : (tyI P t).eok = true) : evMake P t (.sc (.int .i64 l)) (.sc (.int .i64 c)) σ nx =
    if 0 ≤ l ∧ l ≤ c ∧ ((tyI P t).ebytes : Int) * c ≤ 281474976710656 ∧ c ≤ 9223372036854775807 ∧ 0 < (tyI P t).esz then some (.rs nx 0 l.toNat, evBox σ nx (rep l.toNat (tyI P t).ezero) (tyI P t).esz, nx + 1) else none := by
  obtain ⟨e, ei, z, h1, h2, h3, h4, h5, h6, h7⟩ := tyI_slice h he
  unfold evMake
  simp only [h1, h2, h3, h5, h6, h7, h4, and_true]

theorem evBuildSlice_eq {t : TypeId} {len : Nat} {parts : List (Nat × V)} (h : (tyI P t).slice = true) (he : (tyI P t).eok = true) : evBuildSlice P t len parts σ nx =
    if len = 0 then some (.nil, σ, nx) else if 0 < (tyI P t).esz ∧ len * (tyI P t).esz ≤ 1000 then
      match evFill (fun j => some (j * (tyI P t).esz, (tyI P t).esz)) (rep len (tyI P t).ezero) parts with
      | some cells => some (.rs nx 0 len, evBox σ nx cells (tyI P t).esz, nx + 1)
      | none => none
    else none := by
  obtain ⟨e, ei, z, h1, h2, h3, h4, h5, h6, h7⟩ := tyI_slice h he
  unfold evBuildSlice
  simp only [h1, h2, h3, h5, h6, h7, h4, and_true]
  cases evFill (fun j => some (j * ei.size, ei.size)) (rep len (z.cells.toList.map ofCell)) parts <;> rfl

theorem evBuild_eq {t : TypeId} {parts : List (Nat × V)} (h : (tyI P t).bok = true) : evBuild P t parts = (evFill (fun i => (tyI P t).plc[i]?) (tyI P t).zero parts).map .agg := by
  unfold tyI at h ⊢
  cases hi : P.info? t with
  | none => simp [hi] at h
  | some i =>
    cases hd : P.underlying t with
    | none => simp [hi, hd] at h
    | some d =>
      simp only [hi, hd] at h ⊢
      cases d <;> simp only [Bool.false_eq_true] at h
      rename_i fs
      rw [Bool.and_eq_true] at h
      obtain ⟨h1, h2⟩ := h
      simp only [h2, if_true]
      cases hm : evPure P (fs.mapM fun f => do pure (f.offset, ← sizeOf f.type)) with
      | none => rw [hm] at h1; cases h1
      | some a =>
        unfold zeroOk at h2
        cases hz : i.zero with
        | none => simp [hz] at h2
        | some z =>
          simp only [hz, decide_eq_true_eq] at h2
          unfold evBuild places
          simp only [hi, hd, hm, Option.map_some, Option.getD_some, hz, zeroV, h2, if_true, Array.getElem?_toList]

theorem evAppend_eq {t : TypeId} {s x : V} (h : (tyI P t).slice = true) (he : (tyI P t).eok = true) (hs : decide (0 < (tyI P t).esz) = true) : evAppend P #[t, t] s x σ nx =
    (rowOf σ (tyI P t).esz x).bind fun p => appendTo σ nx (tyI P t).esz (tyI P t).ebytes s p.1 p.2 := by
  obtain ⟨e, ei, z, h1, h2, h3, h4, h5, h6, h7⟩ := tyI_slice h he
  rw [h5] at hs
  simp only [decide_eq_true_eq] at hs
  unfold evAppend
  simp only [List.getElem?_toArray, List.getElem?_cons_zero, List.getElem?_cons_succ, h1, beq_self_eq_true, h2, h3, h5, h6, h4, hs, and_self, if_true]
  cases rowOf σ ei.size x <;> rfl

theorem evLen_ts {t : TypeId} {row : List V} {len : Nat} (h : (tyI P t).slice = true) : evLen P t (.ts row len) = some (.sc (.int .i64 len)) := by
  unfold tyI at h
  cases hi : P.info? t with
  | none => simp [hi] at h
  | some i =>
    cases hd : P.underlying t with
    | none => simp [hi, hd] at h
    | some d => simp only [hi, hd] at h; cases d <;> simp at h; simp [evLen, hd]
theorem evLen_rs {t : TypeId} {b off len : Nat} (h : (tyI P t).slice = true) : evLen P t (.rs b off len) = some (.sc (.int .i64 len)) := by
  unfold tyI at h
  cases hi : P.info? t with
  | none => simp [hi] at h
  | some i =>
    cases hd : P.underlying t with
    | none => simp [hi, hd] at h
    | some d => simp only [hi, hd] at h; cases d <;> simp at h; simp [evLen, hd]
theorem evLen_nil {t : TypeId} (h : (tyI P t).slice = true) : evLen P t .nil = some (.sc (.int .i64 0)) := by
  unfold tyI at h
  cases hi : P.info? t with
  | none => simp [hi] at h
  | some i =>
    cases hd : P.underlying t with
    | none => simp [hi, hd] at h
    | some d => simp only [hi, hd] at h; cases d <;> simp at h; simp [evLen, hd]
theorem tyI_str {t : TypeId} (h : (tyI P t).str = true) : P.underlying t = some .string := by
  unfold tyI at h
  cases hi : P.info? t with
  | none => simp [hi] at h
  | some i =>
    cases hd : P.underlying t with
    | none => simp [hi, hd] at h
    | some d => simp only [hi, hd] at h; cases d <;> simp at h; rfl
theorem evLen_str {t : TypeId} {s : ByteArray} (h : (tyI P t).str = true) : evLen P t (.sc (.string s)) = some (.sc (.int .i64 s.size)) := by
  simp [evLen, tyI_str h]

theorem evIdx_str {t : TypeId} {s : ByteArray} {k : IntKind} {i : Int} (h : (tyI P t).str = true) : evIndex P t (.sc (.string s)) (.sc (.int k i)) = (if 0 ≤ i then s[i.toNat]? else none).map fun b => .sc (.int .u8 b.toNat) := by
  unfold evIndex
  simp only [tyI_str h]
  split <;> rename_i e <;> rw [e] <;> rfl

theorem evSlice_str {t : TypeId} {s : ByteArray} {lo hi : Option V} (h : (tyI P t).str = true) : evSlice P t (.sc (.string s)) lo hi none σ = (bnd lo 0).bind fun l => (bnd hi s.size).bind fun h => if l ≤ h ∧ h ≤ s.size then some (.sc (.string (s.extract l h))) else none := by
  unfold evSlice
  simp only [tyI_str h]
  cases bnd lo 0 <;> cases bnd hi s.size <;> rfl

theorem evSlice_ts {t : TypeId} {row : List V} {len : Nat} {lo hi : Option V} (h : (tyI P t).slice = true) (he : (tyI P t).eok = true) : evSlice P t (.ts row len) lo hi none σ = (bnd lo 0).bind fun l => (bnd hi len).bind fun h => if l ≤ h ∧ h ≤ len then some (.ts ((row.drop (l * (tyI P t).esz)).take ((h - l) * (tyI P t).esz)) (h - l)) else none := by
  obtain ⟨e, ei, z, h1, h2, h3, h4, h5, h6, h7⟩ := tyI_slice h he
  unfold evSlice
  simp only [h1, h2, h5]
  cases bnd lo 0 <;> cases bnd hi len <;> rfl

theorem evSlice_rs {t : TypeId} {b off len : Nat} {lo hi : Option V} (h : (tyI P t).slice = true) (he : (tyI P t).eok = true) : evSlice P t (.rs b off len) lo hi none σ = (bnd lo 0).bind fun l => (bnd hi len).bind fun h => (σ b).bind fun B =>
    if l ≤ h ∧ 0 < (tyI P t).esz ∧ B.st = (tyI P t).esz ∧ off + h * (tyI P t).esz ≤ B.cells.length then
      if l = 0 then some (.rs b off h) else if l = h then some (.ts [] 0) else some (.rs b (off + l * (tyI P t).esz) (h - l)) else none := by
  obtain ⟨e, ei, z, h1, h2, h3, h4, h5, h6, h7⟩ := tyI_slice h he
  unfold evSlice
  simp only [h1, h2, h5]
  cases bnd lo 0 <;> cases bnd hi len <;> cases σ b <;> rfl

/-! ### Operations on numbers, bools, strings -/

theorem toVal_sc (v : Value) : toVal (.sc v) = some v := rfl

section
variable {t : TypeId} {x y : Operand} {k : IntKind} {a b : Int}
theorem ev_add : evBin P .add t x y (.sc (.int k a)) (.sc (.int k b)) = some (.sc (.int k (k.wrap (a + b)))) := by
  simp only [evBin, toVal, eqGuard_add, binOp_add, Op.intArith]; rfl
theorem ev_sub : evBin P .sub t x y (.sc (.int k a)) (.sc (.int k b)) = some (.sc (.int k (k.wrap (a - b)))) := by
  simp only [evBin, toVal, eqGuard_sub, binOp_sub, Op.intArith]; rfl
theorem ev_mul : evBin P .mul t x y (.sc (.int k a)) (.sc (.int k b)) = some (.sc (.int k (k.wrap (a * b)))) := by
  simp only [evBin, toVal, eqGuard_mul, binOp_mul, Op.intArith]; rfl
theorem ev_quo (h : b ≠ 0) : evBin P .quo t x y (.sc (.int k a)) (.sc (.int k b)) = some (.sc (.int k (k.wrap (a.tdiv b)))) := by
  simp only [evBin, toVal, eqGuard_quo, binOp_quo, Op.intDiv, if_neg h]; rfl
theorem ev_rem (h : b ≠ 0) : evBin P .rem t x y (.sc (.int k a)) (.sc (.int k b)) = some (.sc (.int k (a.tmod b))) := by
  simp only [evBin, toVal, eqGuard_rem, binOp_rem, Op.intDiv, if_neg h]; rfl
theorem ev_eql : evBin P .eql t x y (.sc (.int k a)) (.sc (.int k b)) = some (.sc (.bool (a == b))) := by
  simp only [evBin, toVal, eqGuard_at_int, binOp_eql]; rfl
theorem ev_neq : evBin P .neq t x y (.sc (.int k a)) (.sc (.int k b)) = some (.sc (.bool (a != b))) := by
  simp only [evBin, toVal, eqGuard_at_int, binOp_neq]; rfl
theorem ev_lss : evBin P .lss t x y (.sc (.int k a)) (.sc (.int k b)) = some (.sc (.bool (decide (a < b)))) := by
  simp only [evBin, toVal, eqGuard_lss, binOp_lss]; rfl
theorem ev_leq : evBin P .leq t x y (.sc (.int k a)) (.sc (.int k b)) = some (.sc (.bool (decide (a ≤ b)))) := by
  simp only [evBin, toVal, eqGuard_leq, binOp_leq]; rfl
theorem ev_gtr : evBin P .gtr t x y (.sc (.int k a)) (.sc (.int k b)) = some (.sc (.bool (decide (b < a)))) := by
  simp only [evBin, toVal, eqGuard_gtr, binOp_gtr]; rfl
theorem ev_geq : evBin P .geq t x y (.sc (.int k a)) (.sc (.int k b)) = some (.sc (.bool (decide (b ≤ a)))) := by
  simp only [evBin, toVal, eqGuard_geq, binOp_geq]; rfl
theorem ev_not {p : Bool} : evUn P .not (.sc (.bool p)) = some (.sc (.bool !p)) := rfl
theorem ev_neg : evUn P .neg (.sc (.int k a)) = some (.sc (.int k (k.wrap (0 - a)))) := rfl
end

end
end Go.TV
