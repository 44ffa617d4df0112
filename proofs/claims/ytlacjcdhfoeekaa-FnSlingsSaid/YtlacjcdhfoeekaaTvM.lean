import Derived.Test.YtlacjcdhfoeekaaTvD
set_option linter.unusedSimpArgs false
set_option linter.unusedVariables false
namespace Go.TV

/-! ### Lists in rows -/
section
variable {α : Type} {c : α → List V} {s : Nat}
theorem slots_len (hc : ∀ x, (c x).length = s) (xs : List α) : (xs.flatMap c).length = xs.length * s := by
  induction xs with
  | nil => simp
  | cons x xs ih => rw [List.flatMap_cons, List.length_append, ih, hc, List.length_cons, Nat.succ_mul, Nat.add_comm]
theorem slot_drop (hc : ∀ x, (c x).length = s) (xs : List α) (k : Nat) : (xs.flatMap c).drop (k * s) = (xs.drop k).flatMap c := by
  induction xs generalizing k with
  | nil => simp
  | cons x xs ih =>
    cases k with
    | zero => simp
    | succ k =>
      rw [List.flatMap_cons, Nat.succ_mul, Nat.add_comm, ← List.drop_drop]
      rw [show s = (c x).length from (hc x).symm, List.drop_left, hc x, ih, List.drop_succ_cons]
theorem slot (hc : ∀ x, (c x).length = s) (xs : List α) (k : Nat) (h : k < xs.length) : ((xs.flatMap c).drop (k * s)).take s = c xs[k] := by
  rw [slot_drop hc, List.drop_eq_getElem_cons h, List.flatMap_cons, show s = (c xs[k]).length from (hc _).symm, List.take_left]
theorem slot1 (c : α → V) (xs : List α) (k : Nat) (h : k < xs.length) : (xs.flatMap fun x => [c x])[k]? = some (c xs[k]) := by
  induction xs generalizing k with
  | nil => cases h
  | cons x xs ih =>
    cases k with
    | zero => rfl
    | succ k => exact ih k (by simpa using h)
theorem slot_ne (hc : ∀ x, (c x).length = s) (hs : 0 < s) (xs : List α) (k : Nat) (h : k < xs.length) : xs.flatMap c ≠ [] := by
  intro e
  have := slots_len hc xs
  rw [e] at this
  have h2 : 0 < xs.length * s := Nat.mul_pos (by omega) hs
  simp at this
  omega

/-- The first `k` of `n` places written. -/
def mix (c : α → List V) (z : List V) (xs : List α) (n k : Nat) : List V := (xs.take k).flatMap c ++ rep (n - k) z
theorem rep_len (n : Nat) (z : List V) : (rep n z).length = n * z.length := by simp [rep]
theorem mix_zero (c : α → List V) (z : List V) (xs : List α) (n : Nat) : rep n z = mix c z xs n 0 := by simp [mix]
theorem mix_full (c : α → List V) (z : List V) (xs : List α) : mix c z xs xs.length xs.length = xs.flatMap c := by simp [mix, rep]
theorem mix_len (hc : ∀ x, (c x).length = s) {z : List V} (hz : z.length = s) (xs : List α) (k : Nat) (h : k ≤ xs.length) : (mix c z xs xs.length k).length = xs.length * s := by
  unfold mix
  rw [List.length_append, slots_len hc, rep_len, hz, List.length_take, Nat.min_eq_left h, ← Nat.add_mul]
  congr 1; omega
theorem rep_succ (n : Nat) (z : List V) : rep (n + 1) z = z ++ rep n z := by simp [rep, List.replicate_succ]
theorem mix_cells (hc : ∀ x, (c x).length = s) {z : List V} (hz : z.length = s) (xs : List α) (k : Nat) (h : k < xs.length) :
    (mix c z xs xs.length k).take (k * s) ++ c xs[k] ++ (mix c z xs xs.length k).drop (k * s + s) = mix c z xs xs.length (k + 1) := by
  have e1 : ((xs.take k).flatMap c).length = k * s := by rw [slots_len hc, List.length_take, Nat.min_eq_left (by omega)]
  have e2 : xs.length - k = (xs.length - (k + 1)) + 1 := by omega
  unfold mix
  rw [List.take_left' e1, ← List.drop_drop, List.drop_left' e1, e2, rep_succ, List.drop_left' hz, List.take_add_one, List.getElem?_eq_getElem h]
  simp only [List.flatMap_append, Option.toList_some, List.flatMap_cons, List.flatMap_nil, List.append_nil, List.append_assoc]
theorem mix_patch (hc : ∀ x, (c x).length = s) {z : List V} (hz : z.length = s) (xs : List α) (k : Nat) (h : k < xs.length) :
    patch (mix c z xs xs.length k) (k * s) (c xs[k]) = mix c z xs xs.length (k + 1) := by
  have h1 := mix_cells hc hz xs k h
  have h2 : ∀ (cells : List V) (off : Nat) (vs : List V), vs.length = s → (s = 1 → off < cells.length) → patch cells off vs = cells.take off ++ vs ++ cells.drop (off + s) := by
    intro cells off vs hv hs
    unfold patch
    split
    · rename_i v
      have : s = 1 := by simpa using hv.symm
      subst this
      rw [List.set_eq_take_append_cons_drop, if_pos (hs rfl)]
      simp
    · rw [hv]
  rw [h2 _ _ _ (hc _) (fun e => ?_), h1]
  rw [mix_len hc hz xs k (by omega), e]; omega
theorem mix_set {c : α → V} {z : V} (xs : List α) (k : Nat) (h : k < xs.length) :
    (mix (fun x => [c x]) [z] xs xs.length k).set k (c xs[k]) = mix (fun x => [c x]) [z] xs xs.length (k + 1) := by
  have := mix_patch (c := fun x => [c x]) (s := 1) (fun _ => rfl) (z := [z]) rfl xs k h
  rwa [Nat.mul_one] at this
theorem stripL_app (f : V → Option (V × List Nat)) (a b : List V) (ha : stripL f a = some (a, [])) (hb : stripL f b = some (b, [])) : stripL f (a ++ b) = some (a ++ b, []) := by
  induction a with
  | nil => exact hb
  | cons v a ih =>
    rw [stripL_cons] at ha
    rw [List.cons_append, stripL_cons]
    cases hf : f v with
    | none => rw [hf] at ha; cases ha
    | some p =>
      rw [hf] at ha
      cases hg : stripL f a with
      | none => rw [hg] at ha; cases ha
      | some q =>
        rw [hg] at ha
        simp only [Option.bind_some, Option.map_some, Option.some.injEq, Prod.mk.injEq, List.cons.injEq, List.append_eq_nil_iff] at ha
        obtain ⟨⟨e1, e2⟩, e3, e4⟩ := ha
        obtain ⟨p1, p2⟩ := p
        obtain ⟨q1, q2⟩ := q
        simp only at e1 e2 e3 e4
        subst e1 e2 e3 e4
        rw [ih hg]
        simp
theorem stripL_slots {f : V → Option (V × List Nat)} (h : ∀ x, stripL f (c x) = some (c x, [])) (xs : List α) : stripL f (xs.flatMap c) = some (xs.flatMap c, []) := by
  induction xs with
  | nil => rfl
  | cons x xs ih => rw [List.flatMap_cons]; exact stripL_app f _ _ (h x) ih
end

/-! ### Comparisons of strings and bools -/
section
variable {P : Program} {t : TypeId} {x y : Operand}
theorem ev_eqls {a b : ByteArray} : evBin P .eql t x y (.sc (.string a)) (.sc (.string b)) = some (.sc (.bool (a.toList == b.toList))) := by
  simp only [evBin, toVal, eqGuard_at_string, binOp_string_eql]; rfl
theorem ev_neqs {a b : ByteArray} : evBin P .neq t x y (.sc (.string a)) (.sc (.string b)) = some (.sc (.bool !(a.toList == b.toList))) := by
  simp only [evBin, toVal, eqGuard_at_string, binOp_string_neq]; rfl
theorem evPure_equal {a b : Bool} (h : P.underlying t = some .bool) (f : Bool → Value) : evPure P ((Op.equal t (.bool a) (.bool b)).bind fun r => pure (f r)) = some (f (a == b)) := by
  show evPure P ((Op.equalIn (9999 + 1) t _ _).bind fun r => pure (f r)) = _
  unfold Op.equalIn underlying
  show evPure P (.program fun p => _) = _
  simp only [evPure]
  have pb : ∀ {β γ : Type} (a : β) (f : β → Sem γ), (Sem.pure a).bind f = f a := fun _ _ => rfl
  have pb' : ∀ {β γ : Type} (a : β) (f : β → Sem γ), (pure a : Sem β).bind f = f a := fun _ _ => rfl
  simp only [h, pb, pb']
  rfl
theorem ev_eqlb {a b : Bool} (h : P.underlying t = some .bool) : evBin P .eql t x y (.sc (.bool a)) (.sc (.bool b)) = some (.sc (.bool (a == b))) := by
  simp only [evBin, toVal, eqGuard_at_bool, pure_bind, binOp]; first | (erw [evPure_equal h (fun r => .bool r)]; rfl) | (erw [evPure_equal h (fun r => .bool !r)]; rfl)
theorem ev_neqb {a b : Bool} (h : P.underlying t = some .bool) : evBin P .neq t x y (.sc (.bool a)) (.sc (.bool b)) = some (.sc (.bool !(a == b))) := by
  simp only [evBin, toVal, eqGuard_at_bool, pure_bind, binOp]; first | (erw [evPure_equal h (fun r => .bool r)]; rfl) | (erw [evPure_equal h (fun r => .bool !r)]; rfl)
end
attribute [go_sem] ev_eqls ev_neqs ev_eqlb ev_neqb bne_self_eq_false BEq.rfl

/-- A loop that counts up. -/
theorem count_rule {body : St → Option (Ex × St)} {st0 : St} {x : Option (Ex × St)} (hL : evLoopI body st0 = x) (N : Nat) (J : Nat → St → Prop) (post : Ex × St → Prop)
    (step : ∀ k st, k < N → J k st → (∃ st', body st = some (.norm, st') ∧ J (k + 1) st') ∨ (∃ r, body st = some r ∧ (∀ s, r ≠ (.norm, s)) ∧ post r))
    (last : ∀ st, J N st → ∃ r, body st = some r ∧ (∀ s, r ≠ (.norm, s)) ∧ post r) (h0 : J 0 st0) : ∃ r, x = some r ∧ post r := by
  refine loop_rule hL (fun n st => n ≤ N ∧ J (N - n) st) post ?_ N ⟨Nat.le_refl _, by rwa [Nat.sub_self]⟩
  rintro n st ⟨hn, hJ⟩
  cases n with
  | zero => exact .inr (last st hJ)
  | succ n =>
    rcases step _ st (by omega) hJ with ⟨st', h1, h2⟩ | h
    · exact .inl ⟨st', h1, n, by omega, by omega, by rwa [show N - n = N - (n + 1) + 1 by omega]⟩
    · exact .inr h
theorem upd_upd {α : Type} (σ : Nat → α) (b : Nat) (x y : α) : upd (upd σ b x) b y = upd σ b y := by
  funext i
  unfold upd
  split <;> rfl
theorem beq_ft : (false == true) = false := id rfl
theorem beq_tf : (true == false) = false := id rfl
attribute [go_sem] beq_ft beq_tf Option.map_none upd_upd List.isEmpty_nil Int.cast_ofNat_Int Int.toNat_natCast
theorem evSlice_nil {P : Program} {t : TypeId} {lo hi : Option V} {σ : Store} (h : (tyI P t).slice = true) (he : (tyI P t).eok = true) : evSlice P t .nil lo hi none σ = (bnd lo 0).bind fun l => (bnd hi 0).bind fun h => if l ≤ h ∧ h ≤ 0 then some .nil else none := by
  obtain ⟨e, ei, z, h1, h2, h3, h4, h5, h6, h7⟩ := tyI_slice h he
  unfold evSlice
  simp only [h1, h2]
  cases bnd lo 0 <;> cases bnd hi 0 <;> rfl
theorem row_nil (σ : Store) (s : Nat) : rowOf σ s .nil = some ([], 0) := rfl
theorem row_ts (σ : Store) (s : Nat) (row : List V) (len : Nat) : rowOf σ s (.ts row len) = if row.length = len * s then some (row, len) else none := rfl
theorem row_rs (σ : Store) (s b off len : Nat) : rowOf σ s (.rs b off len) = (σ b).bind fun B => if off + len * s ≤ B.cells.length then some ((B.cells.drop off).take (len * s), len) else none := by
  show (match σ b with | some B => _ | none => none) = _
  cases σ b <;> rfl
theorem app_nil (σ : Store) (nx size bytes : Nat) (row : List V) (m : Nat) : appendTo σ nx size bytes .nil row m = if m = 0 then some (.nil, σ, nx) else if m ≤ maxLen ∧ m * bytes ≤ 140737488355328 then some (.rs nx 0 m, evBox σ nx row size, nx + 1) else none := rfl
/-- An append to a slice that fills its block. -/
theorem app_full {σ : Store} {nx bytes b len m : Nat} {B : Blk} {row : List V} (hb : σ b = some B) (hl : B.cells.length = len) (hs : B.st = 1) (hm : m ≠ 0) (h1 : len + m ≤ maxLen) (h2 : (len + m) * bytes ≤ 140737488355328) (hr : row.all isCell = true) :
    appendTo σ nx 1 bytes (.rs b 0 len) row m = some (.rs nx 0 (len + m), upd (upd σ b none) nx (some ⟨B.cells ++ row, 1, B.wr⟩), nx + 1) := by
  unfold appendTo
  simp only [hb, hm, if_false, hl, hs, h1, h2, hr]
  rw [if_neg (by omega), if_pos (by simp)]
  simp
theorem billion : ¬(1000000000 : Int) = 0 := by decide
attribute [go_sem] billion
theorem op_buildSlice0 {P : Program} {conv : FuncId → Conv} {call : Call} (d : Option Tmp) (ty : TypeId) (ps : String) (af : Array Edge) (gd : Option (Nat × Bool)) (T : Nat → V) (σ : Store) (nx : Nat) (t : TypeId) (h : (tyI P t).slice = true) (he : (tyI P t).eok = true) : evOp P conv call ⟨d, .buildSlice t 0 #[], ty, ps, af, gd⟩ T σ nx = some (.nil, σ, nx) := by
  rw [op_buildSlice d ty ps af gd T σ nx t 0 #[] (by rfl)]
  have := evBuildSlice_eq (P := P) (t := t) (len := 0) (parts := ([] : List (Nat × V))) (σ := σ) (nx := nx) h he
  simpa using this
theorem op_buildSlice1 {P : Program} {conv : FuncId → Conv} {call : Call} (d : Option Tmp) (ty : TypeId) (ps : String) (af : Array Edge) (gd : Option (Nat × Bool)) (T : Nat → V) (σ : Store) (nx : Nat) (t : TypeId) (x : Operand) (h : (tyI P t).slice = true) (he : (tyI P t).eok = true) (hs : (tyI P t).esz = 1) (hz : (tyI P t).ezero.length = 1) (hc : isCell (val T x) = true) :
    evOp P conv call ⟨d, .buildSlice t 1 #[(0, x)], ty, ps, af, gd⟩ T σ nx = some (.rs nx 0 1, upd σ nx (some ⟨[val T x], 1, true⟩), nx + 1) := by
  rw [op_buildSlice d ty ps af gd T σ nx t 1 _ (by rfl), evBuildSlice_eq h he, if_neg (by decide), hs, if_pos (by decide)]
  have hv : cellsOfV (val T x) = some [val T x] := by generalize val T x = v at *; cases v <;> simp_all [cellsOfV, isCell]
  have hr : (rep 1 (tyI P t).ezero).length = 1 := by rw [rep_len, hz]
  have hset : (rep 1 (tyI P t).ezero).set 0 (val T x) = [val T x] := by
    generalize rep 1 (tyI P t).ezero = l at *
    match l, hr with
    | [a], _ => rfl
  show (match evFill (fun j => some (j * 1, 1)) (rep 1 (tyI P t).ezero) [(0, val T x)] with | some cells => some (V.rs nx 0 1, evBox σ nx cells 1, nx + 1) | none => none) = _
  rw [fill_cons]
  simp only [Option.bind_some, hv, List.length_singleton, hr, Nat.zero_mul, Nat.zero_add, Nat.le_refl, and_self, if_true, patch_one, hset, fill_nil]
  rfl
attribute [go_sem] op_buildSlice0 op_buildSlice1 evSlice_nil row_nil row_ts row_rs app_nil Nat.sub_zero List.isEmpty_cons
/-- A slice of ints that is grown by appending. -/
def Grow (T : Nat → V) (σ : Store) (nx t : Nat) (acc : List Int) : Prop := (T t = .nil ∧ acc = []) ∨ ∃ b, T t = .rs b 0 acc.length ∧ acc ≠ [] ∧ σ b = some ⟨acc.flatMap cI, 1, true⟩ ∧ b < nx
theorem one_le_maxLen : 1 ≤ maxLen := by decide
attribute [go_sem] one_le_maxLen
theorem cI_len (xs : List Int) : (xs.flatMap cI).length = xs.length := by rw [slots_len (c := cI) (s := 1) (fun _ => rfl), Nat.mul_one]
theorem grow_append {T : Nat → V} {σ : Store} {nx t : Nat} {acc : List Int} (hg : Grow T σ nx t acc) (x : Int) (hl : acc.length < 17592186044415) :
    ∃ σ', appendTo (upd σ nx (some ⟨[I x], 1, true⟩)) (nx + 1) 1 8 (T t) [I x] 1 = some (.rs (nx + 1) 0 (acc.length + 1), σ', nx + 1 + 1) ∧ σ' (nx + 1) = some ⟨(acc ++ [x]).flatMap cI, 1, true⟩ := by
  have hm : acc.length + 1 ≤ maxLen := by unfold maxLen; omega
  rcases hg with ⟨h1, rfl⟩ | ⟨b, h1, hne, hb, hbn⟩
  · refine ⟨_, by rw [h1, app_nil, if_neg (by decide), if_pos (by decide)]; rfl, ?_⟩
    simp [evBox, upd]
  · refine ⟨_, by rw [h1, app_full (B := ⟨acc.flatMap cI, 1, true⟩) (by rw [upd_ne _ _ (by omega)]; exact hb) (cI_len acc) rfl (by decide) hm (by omega) rfl], ?_⟩
    simp [upd]
theorem grow_new {T : Nat → V} {σ' : Store} {nx t : Nat} {acc : List Int} (h : σ' (nx + 1) = some ⟨acc.flatMap cI, 1, true⟩) (ht : T t = .rs (nx + 1) 0 acc.length) (hne : acc ≠ []) : Grow T σ' (nx + 1 + 1) t acc := .inr ⟨nx + 1, ht, hne, h, by omega⟩
theorem grow_eq {T T' : Nat → V} {σ : Store} {nx t t' : Nat} {acc : List Int} (h : T' t' = T t) (hg : Grow T σ nx t acc) : Grow T' σ nx t' acc := by
  unfold Grow at *
  rw [h]; exact hg
theorem cI_strip (f : V → Option (V × List Nat)) (h : ∀ n, f (I n) = some (I n, [])) (xs : List Int) : stripL f (xs.flatMap cI) = some (xs.flatMap cI, []) :=
  stripL_slots (fun x => by rw [stripL_cons, h, stripL_nil]; rfl) xs
theorem grow_strip {T : Nat → V} {σ : Store} {nx t : Nat} {acc : List Int} (hg : Grow T σ nx t acc) (d : Nat) : ∃ ids, strip σ (d + 1) (T t) = some (LI acc, ids) := by
  rcases hg with ⟨h1, rfl⟩ | ⟨b, h1, hne, hb, hbn⟩
  · exact ⟨[], by rw [h1, strip_nil]; rfl⟩
  · refine ⟨[b], ?_⟩
    · rw [h1, strip_rs, hb]
      simp only [Option.bind_some, cI_len, Nat.mul_one, Nat.zero_add, Nat.le_refl, if_true, List.drop_zero]
      rw [List.take_of_length_le (by rw [cI_len]; exact Nat.le_refl _), cI_strip _ (fun n => strip_sc _ _ _)]
      rfl
theorem cI_takeall (xs : List Int) : (xs.flatMap cI).take xs.length = xs.flatMap cI := List.take_of_length_le (by rw [cI_len]; exact Nat.le_refl _)
theorem cI_strip' (σ : Store) (d : Nat) (xs : List Int) : stripL (strip σ d) (xs.flatMap cI) = some (xs.flatMap cI, []) := cI_strip _ (fun n => strip_sc _ _ _) xs
theorem cI_cells (xs : List Int) : (xs.flatMap cI).all isCell = true := by
  induction xs with
  | nil => rfl
  | cons x xs ih => rw [List.flatMap_cons]; simp [isCell]
attribute [go_sem] Int.le_refl cI_len cI_takeall cI_strip' cI_cells Nat.le_refl
theorem op_buildSlice3 {P : Program} {conv : FuncId → Conv} {call : Call} (d : Option Tmp) (ty : TypeId) (ps : String) (af : Array Edge) (gd : Option (Nat × Bool)) (T : Nat → V) (σ : Store) (nx : Nat) (t : TypeId) (x y z : Operand) (h : (tyI P t).slice = true) (he : (tyI P t).eok = true) (hs : (tyI P t).esz = 1) (hz : (tyI P t).ezero.length = 1) (hx : isCell (val T x) = true) (hy : isCell (val T y) = true) (hw : isCell (val T z) = true) :
    evOp P conv call ⟨d, .buildSlice t 3 #[(0, x), (1, y), (2, z)], ty, ps, af, gd⟩ T σ nx = some (.rs nx 0 3, upd σ nx (some ⟨[val T x, val T y, val T z], 1, true⟩), nx + 1) := by
  rw [op_buildSlice d ty ps af gd T σ nx t 3 _ (by rfl), evBuildSlice_eq h he, if_neg (by decide), hs, if_pos (by decide)]
  have hv : ∀ v, isCell v = true → cellsOfV v = some [v] := by intro v hv; cases v <;> simp_all [cellsOfV, isCell]
  have hr : (rep 3 (tyI P t).ezero).length = 3 := by rw [rep_len, hz]
  obtain ⟨a, b, c, e⟩ : ∃ a b c, rep 3 (tyI P t).ezero = [a, b, c] := by
    generalize rep 3 (tyI P t).ezero = l at *
    match l, hr with
    | [a, b, c], _ => exact ⟨a, b, c, rfl⟩
  show (match evFill (fun j => some (j * 1, 1)) (rep 3 (tyI P t).ezero) [(0, val T x), (1, val T y), (2, val T z)] with | some cells => some (V.rs nx 0 3, evBox σ nx cells 1, nx + 1) | none => none) = _
  rw [e]
  simp [fill_cons, fill_nil, hv _ hx, hv _ hy, hv _ hw, patch_one, evBox]
attribute [go_sem] op_buildSlice3
theorem res_tmpc {P : Program} (T : Nat → V) (σ : Store) (t : Tmp) (r : ResultVar) (rs : List ResultVar) : evResults P T σ (.tmp t :: r :: rs) = (evResults P T σ (r :: rs)).map fun vs => T t :: vs := by
  rw [evResults]
  cases evResults P T σ (r :: rs) <;> rfl
theorem res_cellc {P : Program} (T : Nat → V) (σ : Store) (a : Tmp) (t : TypeId) (r : ResultVar) (rs : List ResultVar) : evResults P T σ (.cell a t :: r :: rs) = (evLoad P σ t (T a)).bind fun v => (evResults P T σ (r :: rs)).map fun vs => v :: vs := by
  rw [evResults]
  cases evLoad P σ t (T a) <;> cases evResults P T σ (r :: rs) <;> rfl
attribute [go_sem] res_tmpc res_cellc
theorem ev_cvt {P : Program} {s e : TypeId} {k1 k2 k : IntKind} {n : Int} {σ : Store} (hs : P.underlying s = some (.int k1)) (he : P.underlying e = some (.int k2)) : evConvert P s e (.sc (.int k n)) σ = some (.sc (.int k2 (k2.wrap n))) := by
  have h : evPure P (convert s e (.int k n)) = some (.int k2 (k2.wrap n)) := by
    unfold convert
    rw [evPure_bind, ep_underlying hs]
    simp only [Option.bind_some]
    rw [evPure_bind, ep_underlying he]
    rfl
  simp only [evConvert, toVal, h, Option.bind_some]
  rfl
theorem wrap_u64 {n : Int} (h0 : 0 ≤ n) (h1 : n ≤ 18446744073709551615) : IntKind.u64.wrap n = n := by
  unfold IntKind.wrap
  have e1 : IntKind.u64.signed = false := by decide
  have e2 : IntKind.u64.bits = 64 := by decide
  simp only [e1, e2, Bool.false_and]
  rw [if_neg (by simp)]
  omega

/-- The low byte. -/
def b255 (a : Int) : Int := ((BitVec.ofInt 64 a &&& BitVec.ofInt 64 255).toNat : Nat)
theorem b255_range (a : Int) : 0 ≤ b255 a ∧ b255 a ≤ 255 := by
  unfold b255
  rw [BitVec.toNat_and]
  have h : (BitVec.ofInt 64 255).toNat = 255 := by decide
  rw [h]
  have := Nat.and_le_right (n := (BitVec.ofInt 64 a).toNat) (m := 255)
  omega
def xorI (a b : Int) : Int := IntKind.i64.wrap ((BitVec.ofInt 64 a ^^^ BitVec.ofInt 64 b).toNat : Nat)
section
variable {P : Program} {t : TypeId} {x y : Operand}
theorem ev_and255 {a : Int} : evBin P .and t x y (.sc (.int .i64 a)) (.sc (.int .i64 255)) = some (.sc (.int .i64 (b255 a))) := by
  have h : (Op.intBits .and .i64 a 255) = (pure (.int .i64 (b255 a)) : Sem Value) := by
    show (pure (.int .i64 (IntKind.i64.wrap (b255 a))) : Sem Value) = _
    rw [wrap_id (by have := b255_range a; omega) (by have := b255_range a; omega)]
  simp only [evBin, toVal, eqGuard_at_int, binOp_and, h]
  rfl
theorem ev_xor {a b : Int} : evBin P .xor t x y (.sc (.int .i64 a)) (.sc (.int .i64 b)) = some (.sc (.int .i64 (xorI a b))) := by
  simp only [evBin, toVal, eqGuard_at_int, binOp_xor]
  rfl
theorem ev_shr {k yk : IntKind} {a n : Int} (h : ¬n < 0) : evBin P .shr t x y (.sc (.int k a)) (.sc (.int yk n)) = some (.sc (.int k (a.fdiv (2 ^ min n.toNat k.bits)))) := by
  have hs : Op.shift .shr k a yk n = (pure (.int k (a.fdiv (2 ^ min n.toNat k.bits))) : Sem Value) := by
    unfold Op.shift
    rw [if_neg h]
  simp only [evBin, toVal, eqGuard_at_int, binOp_shr, hs]
  rfl
end
def andI (a b : Int) : Int := IntKind.i64.wrap ((BitVec.ofInt 64 a &&& BitVec.ofInt 64 b).toNat : Nat)
theorem ev_and {P : Program} {t : TypeId} {x y : Operand} {a b : Int} : evBin P .and t x y (.sc (.int .i64 a)) (.sc (.int .i64 b)) = some (.sc (.int .i64 (andI a b))) := by
  simp only [evBin, toVal, eqGuard_at_int, binOp_and]
  rfl
attribute [go_sem] ev_and255 ev_xor ev_shr
attribute [go_sem low] ev_and
def isSc : V → Bool
  | .sc _ => true
  | _ => false
theorem isSc_sc (v : Value) : isSc (.sc v) = true := id rfl
theorem opD_convert {P : Program} {conv : FuncId → Conv} {call : Call} (d : Option Tmp) (ty : TypeId) (ps : String) (af : Array Edge) (gd : Option (Nat × Bool)) (T : Nat → V) (σ : Store) (nx : Nat) (s e : TypeId) (x : Operand) (hx : isSc (val T x) = true) :
    evOpD P conv call ⟨d, .convert s e x, ty, ps, af, gd⟩ T σ nx = (evConvert P s e (val T x) noStore).map (·, σ, nx) := by
  obtain ⟨u, hu⟩ : ∃ u, val T x = .sc u := by
    cases hv : val T x <;> rw [hv] at hx <;> first | exact ⟨_, rfl⟩ | cases hx
  refine opD_map T σ nx (by show refsC (val T x) = []; rw [hu]; rfl) fun σ => ?_
  show (evConvert P s e (val T x) σ).map _ = _
  rw [hu]
  rfl
attribute [go_sem] isSc_sc opD_convert
end Go.TV
