import Derived.Test.YtlacjcdhfoeekaaTvD
set_option linter.unusedSimpArgs false
set_option linter.unusedVariables false
namespace Go.TV

/-! ### Lists in rows -/
section
variable {α : Type} {c : α → List V} {s : Nat}
theorem slots_len (hc : ∀ x, (c x).length = s) (xs : List α) : (xs.flatMap c).length = xs.length * s := by
  induction xs with
  | nil => simp
  | cons x xs ih => rw [List.flatMap_cons, List.length_append, ih, hc, List.length_cons, Nat.succ_mul, Nat.add_comm]
theorem slot_drop (hc : ∀ x, (c x).length = s) (xs : List α) (k : Nat) : (xs.flatMap c).drop (k * s) = (xs.drop k).flatMap c := by
  induction xs generalizing k with
  | nil => simp
  | cons x xs ih =>
    cases k with
    | zero => simp
    | succ k =>
      rw [List.flatMap_cons, Nat.succ_mul, Nat.add_comm, ← List.drop_drop]
      rw [show s = (c x).length from (hc x).symm, List.drop_left, hc x, ih, List.drop_succ_cons]
theorem slot (hc : ∀ x, (c x).length = s) (xs : List α) (k : Nat) (h : k < xs.length) : ((xs.flatMap c).drop (k * s)).take s = c xs[k] := by
  rw [slot_drop hc, List.drop_eq_getElem_cons h, List.flatMap_cons, show s = (c xs[k]).length from (hc _).symm, List.take_left]
theorem slot1 (c : α → V) (xs : List α) (k : Nat) (h : k < xs.length) : (xs.flatMap fun x => [c x])[k]? = some (c xs[k]) := by
  induction xs generalizing k with
  | nil => cases h
  | cons x xs ih =>
    cases k with
    | zero => rfl
    | succ k => exact ih k (by simpa using h)
theorem slot_ne (hc : ∀ x, (c x).length = s) (hs : 0 < s) (xs : List α) (k : Nat) (h : k < xs.length) : xs.flatMap c ≠ [] := by
  intro e
  have := slots_len hc xs
  rw [e] at this
  have h2 : 0 < xs.length * s := Nat.mul_pos (by omega) hs
  simp at this
  omega

/-- The first `k` of `n` places written. -/
def mix (c : α → List V) (z : List V) (xs : List α) (n k : Nat) : List V := (xs.take k).flatMap c ++ rep (n - k) z
theorem rep_len (n : Nat) (z : List V) : (rep n z).length = n * z.length := by simp [rep]
theorem mix_zero (c : α → List V) (z : List V) (xs : List α) (n : Nat) : rep n z = mix c z xs n 0 := by simp [mix]
theorem mix_full (c : α → List V) (z : List V) (xs : List α) : mix c z xs xs.length xs.length = xs.flatMap c := by simp [mix, rep]
theorem mix_len (hc : ∀ x, (c x).length = s) {z : List V} (hz : z.length = s) (xs : List α) (k : Nat) (h : k ≤ xs.length) : (mix c z xs xs.length k).length = xs.length * s := by
  unfold mix
  rw [List.length_append, slots_len hc, rep_len, hz, List.length_take, Nat.min_eq_left h, ← Nat.add_mul]
  congr 1; omega
theorem rep_succ (n : Nat) (z : List V) : rep (n + 1) z = z ++ rep n z := by simp [rep, List.replicate_succ]
theorem mix_cells (hc : ∀ x, (c x).length = s) {z : List V} (hz : z.length = s) (xs : List α) (k : Nat) (h : k < xs.length) :
    (mix c z xs xs.length k).take (k * s) ++ c xs[k] ++ (mix c z xs xs.length k).drop (k * s + s) = mix c z xs xs.length (k + 1) := by
  have e1 : ((xs.take k).flatMap c).length = k * s := by rw [slots_len hc, List.length_take, Nat.min_eq_left (by omega)]
  have e2 : xs.length - k = (xs.length - (k + 1)) + 1 := by omega
  unfold mix
  rw [List.take_left' e1, ← List.drop_drop, List.drop_left' e1, e2, rep_succ, List.drop_left' hz, List.take_add_one, List.getElem?_eq_getElem h]
  simp only [List.flatMap_append, Option.toList_some, List.flatMap_cons, List.flatMap_nil, List.append_nil, List.append_assoc]
theorem mix_patch (hc : ∀ x, (c x).length = s) {z : List V} (hz : z.length = s) (xs : List α) (k : Nat) (h : k < xs.length) :
    patch (mix c z xs xs.length k) (k * s) (c xs[k]) = mix c z xs xs.length (k + 1) := by
  have h1 := mix_cells hc hz xs k h
  have h2 : ∀ (cells : List V) (off : Nat) (vs : List V), vs.length = s → (s = 1 → off < cells.length) → patch cells off vs = cells.take off ++ vs ++ cells.drop (off + s) := by
    intro cells off vs hv hs
    unfold patch
    split
    · rename_i v
      have : s = 1 := by simpa using hv.symm
      subst this
      rw [List.set_eq_take_append_cons_drop, if_pos (hs rfl)]
      simp
    · rw [hv]
  rw [h2 _ _ _ (hc _) (fun e => ?_), h1]
  rw [mix_len hc hz xs k (by omega), e]; omega
theorem mix_set {c : α → V} {z : V} (xs : List α) (k : Nat) (h : k < xs.length) :
    (mix (fun x => [c x]) [z] xs xs.length k).set k (c xs[k]) = mix (fun x => [c x]) [z] xs xs.length (k + 1) := by
  have := mix_patch (c := fun x => [c x]) (s := 1) (fun _ => rfl) (z := [z]) rfl xs k h
  rwa [Nat.mul_one] at this
theorem stripL_app (f : V → Option (V × List Nat)) (a b : List V) (ha : stripL f a = some (a, [])) (hb : stripL f b = some (b, [])) : stripL f (a ++ b) = some (a ++ b, []) := by
  induction a with
  | nil => exact hb
  | cons v a ih =>
    rw [stripL_cons] at ha
    rw [List.cons_append, stripL_cons]
    cases hf : f v with
    | none => rw [hf] at ha; cases ha
    | some p =>
      rw [hf] at ha
      cases hg : stripL f a with
      | none => rw [hg] at ha; cases ha
      | some q =>
        rw [hg] at ha
        simp only [Option.bind_some, Option.map_some, Option.some.injEq, Prod.mk.injEq, List.cons.injEq, List.append_eq_nil_iff] at ha
        obtain ⟨⟨e1, e2⟩, e3, e4⟩ := ha
        obtain ⟨p1, p2⟩ := p
        obtain ⟨q1, q2⟩ := q
        simp only at e1 e2 e3 e4
        subst e1 e2 e3 e4
        rw [ih hg]
        simp
theorem stripL_slots {f : V → Option (V × List Nat)} (h : ∀ x, stripL f (c x) = some (c x, [])) (xs : List α) : stripL f (xs.flatMap c) = some (xs.flatMap c, []) := by
  induction xs with
  | nil => rfl
  | cons x xs ih => rw [List.flatMap_cons]; exact stripL_app f _ _ (h x) ih
end

/-! ### Comparisons of strings and bools -/
section
variable {P : Program} {t : TypeId} {x y : Operand}
theorem ev_eqls {a b : ByteArray} : evBin P .eql t x y (.sc (.string a)) (.sc (.string b)) = some (.sc (.bool (a.toList == b.toList))) := by
  simp only [evBin, toVal, eqGuard_at_string, binOp_string_eql]; rfl
theorem ev_neqs {a b : ByteArray} : evBin P .neq t x y (.sc (.string a)) (.sc (.string b)) = some (.sc (.bool !(a.toList == b.toList))) := by
  simp only [evBin, toVal, eqGuard_at_string, binOp_string_neq]; rfl
theorem evPure_equal {a b : Bool} (h : P.underlying t = some .bool) (f : Bool → Value) : evPure P ((Op.equal t (.bool a) (.bool b)).bind fun r => pure (f r)) = some (f (a == b)) := by
  show evPure P ((Op.equalIn (9999 + 1) t _ _).bind fun r => pure (f r)) = _
  unfold Op.equalIn underlying
  show evPure P (.program fun p => _) = _
  simp only [evPure]
  have pb : ∀ {β γ : Type} (a : β) (f : β → Sem γ), (Sem.pure a).bind f = f a := fun _ _ => rfl
  have pb' : ∀ {β γ : Type} (a : β) (f : β → Sem γ), (pure a : Sem β).bind f = f a := fun _ _ => rfl
  simp only [h, pb, pb']
  rfl
theorem ev_eqlb {a b : Bool} (h : P.underlying t = some .bool) : evBin P .eql t x y (.sc (.bool a)) (.sc (.bool b)) = some (.sc (.bool (a == b))) := by
  simp only [evBin, toVal, eqGuard_at_bool, pure_bind, binOp]; first | (erw [evPure_equal h (fun r => .bool r)]; rfl) | (erw [evPure_equal h (fun r => .bool !r)]; rfl)
theorem ev_neqb {a b : Bool} (h : P.underlying t = some .bool) : evBin P .neq t x y (.sc (.bool a)) (.sc (.bool b)) = some (.sc (.bool !(a == b))) := by
  simp only [evBin, toVal, eqGuard_at_bool, pure_bind, binOp]; first | (erw [evPure_equal h (fun r => .bool r)]; rfl) | (erw [evPure_equal h (fun r => .bool !r)]; rfl)
end
attribute [go_sem] ev_eqls ev_neqs ev_eqlb ev_neqb bne_self_eq_false BEq.rfl

/-- A loop that counts up. -/
theorem count_rule {body : St → Option (Ex × St)} {st0 : St} {x : Option (Ex × St)} (hL : evLoopI body st0 = x) (N : Nat) (J : Nat → St → Prop) (post : Ex × St → Prop)
    (step : ∀ k st, k < N → J k st → (∃ st', body st = some (.norm, st') ∧ J (k + 1) st') ∨ (∃ r, body st = some r ∧ (∀ s, r ≠ (.norm, s)) ∧ post r))
    (last : ∀ st, J N st → ∃ r, body st = some r ∧ (∀ s, r ≠ (.norm, s)) ∧ post r) (h0 : J 0 st0) : ∃ r, x = some r ∧ post r := by
  refine loop_rule hL (fun n st => n ≤ N ∧ J (N - n) st) post ?_ N ⟨Nat.le_refl _, by rwa [Nat.sub_self]⟩
  rintro n st ⟨hn, hJ⟩
  cases n with
  | zero => exact .inr (last st hJ)
  | succ n =>
    rcases step _ st (by omega) hJ with ⟨st', h1, h2⟩ | h
    · exact .inl ⟨st', h1, n, by omega, by omega, by rwa [show N - n = N - (n + 1) + 1 by omega]⟩
    · exact .inr h
theorem upd_upd {α : Type} (σ : Nat → α) (b : Nat) (x y : α) : upd (upd σ b x) b y = upd σ b y := by
  funext i
  unfold upd
  split <;> rfl
theorem beq_ft : (false == true) = false := id rfl
theorem beq_tf : (true == false) = false := id rfl
attribute [go_sem] beq_ft beq_tf Option.map_none upd_upd List.isEmpty_nil Int.cast_ofNat_Int Int.toNat_natCast
end Go.TV
