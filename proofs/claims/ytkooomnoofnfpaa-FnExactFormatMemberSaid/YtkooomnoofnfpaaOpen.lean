/-
  How an argument's reading lays its cells bare, kind by kind: a lemma a kind, for every type that is built of numbers, bools, strings, slices and structs.
  Conditions: none.
-/
import Derived.Test.YtkooomnoofnfpaaWWords
import Derived.SizedLaws
import Derived.ChangeArms
import Derived.Deep.Slices
import Derived.OpenShut
import Derived.ChangeOld
namespace Go.Proofs.Ytkooomnoofnfpaa.Open
open Go.ChangeShapes Go.WideShapes Go.Proofs.YtkooomnoofnfpaaW.PrintWords

/-- A reading at type t is one of the kind d, of which ok holds. -/
structure Opens {α : Type} (P : Program) (t : TypeId) (d : Kd α) (ok : α → Prop) : Prop where
  out : ∀ {H : Type} {enc : TypeId × Value → H} {W : World} {base : Nat} {spare : Nat → Bool} {held : Bool} {fuel : Nat} {cs : List Value} {y : DataW H × List MemPlace},
    DataW.trod enc P W base spare held fuel t cs = some y → (∀ n ∈ DataW.weights P t y.1, n ≤ reachBytes) → ∃ x, d.K W x cs ∧ ok x

theorem opens_int {P : Program} {t : TypeId} {k : IntKind} (ht : P.underlying t = some (.int k)) : Opens P t (Kd.int k) (fun n => (Lit.int k n).wf = true) :=
  ⟨fun h _ => by
    obtain ⟨n, rfl, _, hw⟩ := DataW.trod_int ht h
    exact ⟨n, rfl, hw⟩⟩

theorem opens_bool {P : Program} {t : TypeId} (ht : P.underlying t = some .bool) : Opens P t Kd.bool (fun _ => True) :=
  ⟨fun h _ => by
    obtain ⟨b, rfl, _⟩ := DataW.trod_bool ht h
    exact ⟨b, rfl, trivial⟩⟩

theorem opens_string {P : Program} {t : TypeId} (ht : P.underlying t = some .string) : Opens P t Kd.string (fun s => s.size ≤ 140737488351232) :=
  ⟨fun h hw => by
    obtain ⟨s, rfl, rfl, _⟩ := DataW.trod_string ht h
    refine ⟨s, rfl, ?_⟩
    have := hw s.data.toList.length (by simp [DataW.weights])
    rw [Array.length_toList] at this
    exact this⟩

theorem weights_of_all {H : Type} {P : Program} {e : TypeId} : ∀ {l : List (DataW H)} {d : DataW H}, d ∈ l → ∀ n ∈ d.weights P e, n ∈ DataW.weightsAll P e l
  | c :: l, d, hd, n, hn => by
    unfold DataW.weightsAll
    rcases List.mem_cons.1 hd with rfl | hd
    · exact List.mem_append_left _ hn
    · exact List.mem_append_right _ (weights_of_all hd n hn)

theorem choose_list {α : Type} {p : Nat → α → Prop} : ∀ n, (∀ i, i < n → ∃ x, p i x) → ∃ l : List α, l.length = n ∧ ∀ i x, l[i]? = some x → p i x
  | 0, _ => ⟨[], rfl, fun i x h => by simp at h⟩
  | n + 1, h => by
    obtain ⟨l, hl, hp⟩ := choose_list n (fun i hi => h i (by omega))
    obtain ⟨x, hx⟩ := h n (by omega)
    refine ⟨l ++ [x], by simp [hl], fun i y hy => ?_⟩
    rcases Nat.lt_or_ge i n with hi | hi
    · rw [List.getElem?_append_left (by omega)] at hy
      exact hp i y hy
    · rw [List.getElem?_append_right (by omega), hl] at hy
      have h0 : i - n = 0 := by
        rcases Nat.eq_zero_or_pos (i - n) with h0 | h0
        · exact h0
        · rw [List.getElem?_eq_none (by simp; omega)] at hy
          cases hy
      rw [h0] at hy
      have : x = y := by simpa using hy
      subst this
      have : i = n := by omega
      subst this
      exact hx

theorem opens_slice {P : Program} {t e : TypeId} {α : Type} {d : Kd α} {ok : α → Prop} {B : Nat} (ht : P.underlying t = some (.slice e)) (hd : Opens P e d ok) (hc : P.cellsOf e = d.sz) (hB : P.bytesOf e = B) :
    Opens P t (Kd.slice e d) (fun xs => (∀ x ∈ xs, ok x) ∧ xs.length * B ≤ 140737488351232 ∧ xs.length ≤ maxLen) :=
  ⟨fun {H enc W base spare held fuel cs y} h hw => by
    rcases Go.Deep.open_slice ht h with ⟨rfl, rfl⟩ | ⟨a, len, cap, m, n, D, Pl, rfl, _, hl, hm, hmm, rfl, hx⟩
    · refine ⟨[], ⟨none, 0, rfl, Nat.le_refl _, rfl, Nat.zero_le _, fun h => absurd h (by simp)⟩, fun x hx => by simp at hx, by simp, Nat.zero_le _⟩
    · have hlm : len ≤ m := by rw [hmm]; split <;> omega
      simp only [DataW.weights, ht, List.length_map, List.length_range] at hw
      obtain ⟨xs, hxl, hxs⟩ := choose_list (p := fun i x => ∃ c, c.length = d.sz ∧ d.K W x c ∧ ok x ∧ ∀ j u, c[j]? = some u → W.cell? (a.add (i * d.sz + j)) = some u) len (fun i hi => by
        obtain ⟨cs', hcs, htr⟩ := hx i (by omega)
        obtain ⟨x, hK, hok⟩ := hd.out htr (fun k hk => hw k (List.mem_cons_of_mem _ (List.mem_append_left _ (weights_of_all (d := D i) (List.mem_map.2 ⟨i, List.mem_range.2 hi, rfl⟩) k hk))))
        obtain ⟨_, hcl, hat⟩ := World.cells?_some hcs
        refine ⟨x, cs', d.K_len hK, hK, hok, fun j u hu => ?_⟩
        have hj : j < P.cellsOf e := by rw [← hcl]; exact (List.getElem?_eq_some_iff.1 hu).1
        have := hat j hj
        rw [hc, Go.Deep.add_add] at this
        rw [this, hu])
      have hlen : len ≤ 9223372036854775807 := by
        unfold maxLen at hm
        omega
      refine ⟨xs, ⟨some a, cap, by rw [hxl], by omega, rfl, by omega, fun _ => ⟨a, rfl, fun j p hj => ?_⟩⟩, fun x hx' => ?_, ?_, by omega⟩
      · obtain ⟨c, h1, h2, _, h4⟩ := hxs j p hj
        exact ⟨c, h1, h2, h4⟩
      · obtain ⟨i, hi⟩ := List.mem_iff_getElem?.1 hx'
        obtain ⟨_, _, _, h3, _⟩ := hxs i x hi
        exact h3
      · have := hw _ List.mem_cons_self
        rw [hB] at this
        rw [hxl]
        exact Nat.le_trans (Nat.mul_le_mul_right _ (by omega)) this⟩

/-- The fields of a struct from one on, whose first cell is at off. -/
structure OpensF {α : Type} (P : Program) (fs : List Field) (off : Nat) (d : Kd α) (ok : α → Prop) : Prop where
  out : ∀ {H : Type} {enc : TypeId × Value → H} {W : World} {base : Nat} {spare : Nat → Bool} {held : Bool} {n : Nat} {cs : List Value} {xs : List (DataW H × List MemPlace)},
    xs.length = fs.length → (∀ (i : Nat) (f : Field), fs[i]? = some f → DataW.trod enc P W base spare held n f.type ((cs.drop f.offset).take (P.cellsOf f.type)) = xs[i]?) →
    (∀ n ∈ DataW.weightsEach P (fs.map (·.type)) (xs.map (·.1)), n ≤ reachBytes) → ∃ x, d.K W x ((cs.drop off).take d.sz) ∧ ok x

theorem opensF_one {P : Program} {f : Field} {off : Nat} {α : Type} {d : Kd α} {ok : α → Prop} {t : TypeId} (ho : f.offset = off) (hf : f.type = t) (h : Opens P t d ok) (hc : P.cellsOf t = d.sz) : OpensF P [f] off d ok :=
  ⟨fun {H enc W base spare held n cs xs} hl hx hw => by
    match xs, hl with
    | [y], _ =>
      have h0 := hx 0 f rfl
      rw [hf] at h0
      obtain ⟨x, hK, hok⟩ := h.out (y := y) (by simpa using h0) (fun n hn => hw n (by simp [DataW.weightsEach, hf]; exact hn))
      rw [ho, hc] at hK
      exact ⟨x, hK, hok⟩⟩

theorem opensF_cons {P : Program} {f : Field} {fs : List Field} {off off' : Nat} {α β : Type} {a : Kd α} {b : Kd β} {oka : α → Prop} {okb : β → Prop} {t : TypeId} (ho : f.offset = off) (hf : f.type = t) (h : Opens P t a oka) (hc : P.cellsOf t = a.sz)
    (hr : OpensF P fs off' b okb) (ho' : off' = off + a.sz) : OpensF P (f :: fs) off (Kd.pair a b) (fun x => oka x.1 ∧ okb x.2) :=
  ⟨fun {H enc W base spare held n cs xs} hl hx hw => by
    match xs, hl with
    | y :: ys, hl =>
      have h0 := hx 0 f rfl
      rw [hf] at h0
      obtain ⟨x, hK, hok⟩ := h.out (y := y) (by simpa using h0) (fun n hn => hw n (by simp only [List.map_cons, DataW.weightsEach, hf]; exact List.mem_append_left _ hn))
      obtain ⟨z, hZ, hokz⟩ := hr.out (cs := cs) (xs := ys) (by simpa using hl) (fun i g hg => hx (i + 1) g hg) (fun n hn => hw n (by simp only [List.map_cons, DataW.weightsEach]; exact List.mem_append_right _ hn))
      rw [ho, hc] at hK
      rw [ho', ← List.drop_drop] at hZ
      exact ⟨(x, z), ⟨_, _, List.take_add, hK, hZ⟩, hok, hokz⟩⟩

theorem opens_struct {P : Program} {t : TypeId} {fs : Array Field} {α : Type} {d : Kd α} {ok : α → Prop} (ht : P.underlying t = some (.struct fs)) (h : OpensF P fs.toList 0 d ok) (hc : P.cellsOf t = d.sz) : Opens P t d ok :=
  ⟨fun {H enc W base spare held fuel cs y} hy hw => by
    obtain ⟨xs, n, _, rfl, hcl, hl, hx⟩ := DataW.trod_struct ht hy
    simp only [DataW.weights, ht] at hw
    obtain ⟨x, hK, hok⟩ := h.out (cs := cs) (xs := xs) (by simpa using hl) (fun i f hf => hx i f (by simpa using hf)) hw
    rw [List.drop_zero, List.take_of_length_le (by omega)] at hK
    exact ⟨x, hK, hok⟩⟩

theorem opens_iso {P : Program} {t : TypeId} {α β : Type} {d : Kd α} {ok : α → Prop} (f : β → α) (g : α → β) (hg : ∀ x, f (g x) = x) (h : Opens P t d ok) : Opens P t (Kd.iso d f) (fun y => ok (f y)) :=
  ⟨fun hy hw => by
    obtain ⟨x, hK, hok⟩ := h.out hy hw
    exact ⟨g x, by show d.K _ (f (g x)) _; rw [hg]; exact hK, by rw [hg]; exact hok⟩⟩

theorem opens_of {P : Program} {t : TypeId} {α : Type} {d : Kd α} {ok ok' : α → Prop} (h : Opens P t d ok) (hi : ∀ x, ok x → ok' x) : Opens P t d ok' :=
  ⟨fun hy hw => by
    obtain ⟨x, hK, hok⟩ := h.out hy hw
    exact ⟨x, hK, hi x hok⟩⟩

/-- A parameter that is read. -/
theorem opens_param {P : Program} {t : TypeId} {α : Type} {d : Kd α} {ok : α → Prop} (h : Opens P t d ok) {H : Type} {enc : TypeId × Value → H} {W : World} {base : Nat} {spare : Nat → Bool} {held : Bool} {v : Value} {y : DataW H} {p : List MemPlace}
    (hd : DataW.Trod enc P W base spare held t v y p) {ts : List TypeId} {ds : List (DataW H)} {j : Nat} (hsz : (DataW.weightsEach P ts ds).all (· ≤ reachBytes) = true) (htj : ts[j]? = some t) (hdj : ds[j]? = some y) :
    ∃ x, d.K W x v.cells.toList ∧ ok x := by
  obtain ⟨fuel, hf⟩ := hd
  exact h.out hf (fun n hn => by
    have := List.all_eq_true.1 hsz n (DataW.weights_mem_each htj hdj n hn)
    simpa using this)

/-- .. a struct .. -/
theorem agg_of {cs : Array Value} {l : List Value} (h : cs.toList = l) : Value.agg cs = .agg l.toArray := by
  subst h
  simp

/-- .. a slice -/
theorem slice_of {α : Type} {e : TypeId} {d : Kd α} {W : World} {a : Option Addr} {len cap : Nat} {xs : List α} (h : (Kd.slice e d).K W xs (Value.slice a len cap).cells.toList) :
    len = xs.length ∧ xs.length ≤ cap ∧ Kd.C d W a xs.length xs := by
  obtain ⟨A, c, hcs, hl, hC⟩ := h
  simp only [Value.cells, List.cons.injEq, and_true] at hcs
  injection hcs with h1 h2 h3
  subst h1 h2 h3
  exact ⟨rfl, hl, hC⟩

end Go.Proofs.Ytkooomnoofnfpaa.Open
