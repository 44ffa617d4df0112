import Derived.Test.YtlacjcdhfoeekaaTv24
import Derived.SizedLaws
import Derived.ChangeArms
import Derived.Deep.Slices
import Derived.OpenShut
import Derived.ChangeOld
set_option linter.unusedSimpArgs false
set_option linter.unusedVariables false
namespace Go.TV
open Go.ChangeShapes Go.WideShapes Go.RowKit
set_option linter.unusedVariables false

/-- The situation at a call of trees: whatever lies in memory may be read. -/
def start (W : World) : Sit := ⟨fun k _ => k < W.heap.size, fun _ => none, W⟩

theorem start_inv (W : World) : Inv (start W) noStore := Inv.none _ (fun _ _ h => h)

/-- A reading at type t is one of the trees c x, of which ok holds. -/
structure OpensV {α : Type} (P : Program) (t : TypeId) (c : α → List V) (ok : α → Prop) : Prop where
  out : ∀ {H : Type} {enc : TypeId × Value → H} {W : World} {base : Nat} {spare : Nat → Bool} {held : Bool} {fuel : Nat} {cs : List Value} {y : DataW H × List MemPlace},
    DataW.trod enc P W base spare held fuel t cs = some y → (∀ n ∈ DataW.weights P t y.1, n ≤ reachBytes) → ∃ x, VRs (start W) (c x) cs ∧ ok x

theorem VRs_one {s : Sit} {v : V} {x : Value} (h : VR s v x) : VRs s [v] [x] := by
  unfold VRs
  exact ⟨x, [], rfl, h, by unfold VRs; rfl⟩

theorem opensV_int {P : Program} {t : TypeId} {k : IntKind} (ht : P.underlying t = some (.int k)) : OpensV P t (fun n : Int => [.sc (.int k n)]) (fun n => (Lit.int k n).wf = true) :=
  ⟨fun h _ => by
    obtain ⟨n, rfl, _, hw⟩ := DataW.trod_int ht h
    exact ⟨n, VRs_one (VR_sc rfl), hw⟩⟩

theorem opensV_bool {P : Program} {t : TypeId} (ht : P.underlying t = some .bool) : OpensV P t (fun b : Bool => [.sc (.bool b)]) (fun _ => True) :=
  ⟨fun h _ => by
    obtain ⟨b, rfl, _⟩ := DataW.trod_bool ht h
    exact ⟨b, VRs_one (VR_sc rfl), trivial⟩⟩

theorem opensV_string {P : Program} {t : TypeId} (ht : P.underlying t = some .string) : OpensV P t (fun s : ByteArray => [.sc (.string s)]) (fun s => s.size ≤ 140737488351232) :=
  ⟨fun h hw => by
    obtain ⟨s, rfl, rfl, _⟩ := DataW.trod_string ht h
    refine ⟨s, VRs_one (VR_sc rfl), ?_⟩
    have := hw s.data.toList.length (by simp [DataW.weights])
    rw [Array.length_toList] at this
    exact this⟩

theorem weights_of_all {H : Type} {P : Program} {e : TypeId} : ∀ {l : List (DataW H)} {d : DataW H}, d ∈ l → ∀ n ∈ d.weights P e, n ∈ DataW.weightsAll P e l
  | c :: l, d, hd, n, hn => by
    unfold DataW.weightsAll
    rcases List.mem_cons.1 hd with rfl | hd
    · exact List.mem_append_left _ hn
    · exact List.mem_append_right _ (weights_of_all hd n hn)

theorem choose_list {α : Type} {p : Nat → α → Prop} : ∀ n, (∀ i, i < n → ∃ x, p i x) → ∃ l : List α, l.length = n ∧ ∀ i x, l[i]? = some x → p i x
  | 0, _ => ⟨[], rfl, fun i x h => by simp at h⟩
  | n + 1, h => by
    obtain ⟨l, hl, hp⟩ := choose_list n (fun i hi => h i (by omega))
    obtain ⟨x, hx⟩ := h n (by omega)
    refine ⟨l ++ [x], by simp [hl], fun i y hy => ?_⟩
    rcases Nat.lt_or_ge i n with hi | hi
    · rw [List.getElem?_append_left (by omega)] at hy
      exact hp i y hy
    · rw [List.getElem?_append_right (by omega), hl] at hy
      have h0 : i - n = 0 := by
        rcases Nat.eq_zero_or_pos (i - n) with h0 | h0
        · exact h0
        · rw [List.getElem?_eq_none (by simp; omega)] at hy
          cases hy
      rw [h0] at hy
      have : x = y := by simpa using hy
      subst this
      have : i = n := by omega
      subst this
      exact hx

theorem VRow_flatMap {s : Sit} {α : Type} {c : α → List V} {k size : Nat} (hc : ∀ x, (c x).length = size) : ∀ (xs : List α) (o : Nat), (∀ i x, xs[i]? = some x → VRow s (c x) k (o + i * size)) → VRow s (xs.flatMap c) k o
  | [], o, _ => by rw [List.flatMap_nil]; unfold VRow; trivial
  | x :: xs, o, h => by
    rw [List.flatMap_cons]
    have h0 := h 0 x rfl
    rw [Nat.zero_mul, Nat.add_zero] at h0
    have h1 := VRow_flatMap hc xs (o + size) (fun i y hy => by
      have := h (i + 1) y (by simpa using hy)
      rw [Nat.add_mul, Nat.one_mul] at this
      rwa [show o + size + i * size = o + (i * size + size) by omega])
    have app : ∀ (a b : List V) (o : Nat), VRow s a k o → VRow s b k (o + a.length) → VRow s (a ++ b) k o := by
      intro a
      induction a with
      | nil => intro b o _ hb; simpa using hb
      | cons v a ih =>
        intro b o ha hb
        rw [List.cons_append]
        unfold VRow at ha ⊢
        refine ⟨ha.1, ha.2.1, ih b (o + 1) ha.2.2 ?_⟩
        rwa [show o + 1 + a.length = o + (v :: a).length by simp; omega]
    exact app _ _ o h0 (by rw [hc]; exact h1)

theorem opensV_slice {P : Program} {t e : TypeId} {α : Type} {c : α → List V} {ok : α → Prop} {B size : Nat} (ht : P.underlying t = some (.slice e)) (hd : OpensV P e c ok) (hcs : ∀ x, (c x).length = size) (hc : P.cellsOf e = size) (hB : P.bytesOf e = B) :
    OpensV P t (fun xs : List α => [.ts (xs.flatMap c) xs.length]) (fun xs => (∀ x ∈ xs, ok x) ∧ xs.length * B ≤ 140737488351232 ∧ xs.length ≤ maxLen) :=
  ⟨fun {H enc W base spare held fuel cs y} h hw => by
    rcases Go.Deep.open_slice ht h with ⟨rfl, rfl⟩ | ⟨a, len, cap, m, n, D, Pl, rfl, _, hl, hm, hmm, rfl, hx⟩
    · exact ⟨[], VRs_one (by unfold VR; exact ⟨none, 0, rfl, Nat.le_refl _, .inl rfl⟩), fun x hx => by simp at hx, by simp, Nat.zero_le _⟩
    · have hlm : len ≤ m := by rw [hmm]; split <;> omega
      simp only [DataW.weights, ht, List.length_map, List.length_range] at hw
      obtain ⟨xs, hxl, hxs⟩ := choose_list (p := fun i x => ∃ cc : List Value, cc.length = size ∧ VRs (start W) (c x) cc ∧ ok x ∧ ∀ (j : Nat) (u : Value), cc[j]? = some u → W.cell? (a.add (i * size + j)) = some u) len (fun i hi => by
        obtain ⟨cs', hcs', htr⟩ := hx i (by omega)
        obtain ⟨x, hK, hok⟩ := hd.out htr (fun k hk => hw k (List.mem_cons_of_mem _ (List.mem_append_left _ (weights_of_all (d := D i) (List.mem_map.2 ⟨i, List.mem_range.2 hi, rfl⟩) k hk))))
        obtain ⟨_, hcl, hat⟩ := World.cells?_some hcs'
        refine ⟨x, cs', by rw [← VRs_length hK, hcs], hK, hok, fun j u hu => ?_⟩
        have hj : j < P.cellsOf e := by rw [← hcl]; exact (List.getElem?_eq_some_iff.1 hu).1
        have := hat j hj
        rw [hc, Go.Deep.add_add] at this
        rw [this, hu])
      have hlen : len ≤ 9223372036854775807 := by
        unfold maxLen at hm
        omega
      refine ⟨xs, VRs_one ?_, fun x hx' => ?_, ?_, by omega⟩
      · unfold VR
        refine ⟨some a, cap, by rw [hxl], by omega, ?_⟩
        by_cases hne : xs.flatMap c = []
        · exact .inl hne
        · obtain ⟨x0, hx0⟩ : ∃ x0, xs[0]? = some x0 := by
            cases xs with
            | nil => exact absurd rfl hne
            | cons x0 r => exact ⟨x0, rfl⟩
          have hspot : a.spot = none ∧ a.block < W.heap.size := by
            obtain ⟨cc, k1, k2, k3, k4⟩ := hxs 0 x0 hx0
            have hne2 : cc ≠ [] := by
              rintro rfl
              have : size = 0 := by simpa using k1.symm
              apply hne
              rw [List.flatMap_eq_nil_iff]
              intro x _
              exact List.eq_nil_of_length_eq_zero (by rw [hcs, this])
            cases cc with
            | nil => exact absurd rfl hne2
            | cons u r =>
              have := k4 0 u rfl
              rw [Nat.zero_mul, Nat.zero_add] at this
              have ha0 : a.add 0 = a := by simp [Addr.add]
              rw [ha0] at this
              refine ⟨?_, World.block_lt_of_cell? W a this⟩
              unfold World.cell? at this
              split at this
              · split at this
                · cases this
                · rename_i hs; simpa using hs
              · cases this
          obtain ⟨hs1, hs2⟩ := hspot
          obtain ⟨ab, ao, asp⟩ := a
          simp only at hs1 hs2
          subst hs1
          refine .inr ⟨ab, ao, rfl, VRow_flatMap hcs xs ao fun i x hx => VRow_of fun j v hv => ⟨hs2, ?_⟩⟩
          obtain ⟨cc, k1, k2, k3, k4⟩ := hxs i x hx
          obtain ⟨u, hu, hr⟩ := VRs_get k2 hv
          refine ⟨u, ?_, hr⟩
          have := k4 j u hu
          rw [Addr.add_lit] at this
          rw [Nat.add_assoc]
          exact this
      · obtain ⟨i, hi⟩ := List.mem_iff_getElem?.1 hx'
        obtain ⟨_, _, _, h3, _⟩ := hxs i x hi
        exact h3
      · have := hw _ List.mem_cons_self
        rw [hB] at this
        rw [hxl]
        exact Nat.le_trans (Nat.mul_le_mul_right _ (by omega)) this⟩

/-- The fields of a struct from one on, whose first cell is at off. -/
structure OpensVF {α : Type} (P : Program) (fs : List Field) (off sz : Nat) (c : α → List V) (ok : α → Prop) : Prop where
  out : ∀ {H : Type} {enc : TypeId × Value → H} {W : World} {base : Nat} {spare : Nat → Bool} {held : Bool} {n : Nat} {cs : List Value} {xs : List (DataW H × List MemPlace)},
    xs.length = fs.length → (∀ (i : Nat) (f : Field), fs[i]? = some f → DataW.trod enc P W base spare held n f.type ((cs.drop f.offset).take (P.cellsOf f.type)) = xs[i]?) →
    (∀ n ∈ DataW.weightsEach P (fs.map (·.type)) (xs.map (·.1)), n ≤ reachBytes) → ∃ x, VRs (start W) (c x) ((cs.drop off).take sz) ∧ ok x

theorem opensVF_one {P : Program} {f : Field} {off sz : Nat} {α : Type} {c : α → List V} {ok : α → Prop} {t : TypeId} (ho : f.offset = off) (hf : f.type = t) (h : OpensV P t c ok) (hc : P.cellsOf t = sz) : OpensVF P [f] off sz c ok :=
  ⟨fun {H enc W base spare held n cs xs} hl hx hw => by
    match xs, hl with
    | [y], _ =>
      have h0 := hx 0 f rfl
      rw [hf] at h0
      obtain ⟨x, hK, hok⟩ := h.out (y := y) (by simpa using h0) (fun n hn => hw n (by simp [DataW.weightsEach, hf]; exact hn))
      rw [ho, hc] at hK
      exact ⟨x, hK, hok⟩⟩

theorem opensVF_cons {P : Program} {f : Field} {fs : List Field} {off off' sz sz' : Nat} {α β : Type} {a : α → List V} {b : β → List V} {oka : α → Prop} {okb : β → Prop} {t : TypeId} (ho : f.offset = off) (hf : f.type = t) (h : OpensV P t a oka) (hc : P.cellsOf t = sz)
    (hr : OpensVF P fs off' sz' b okb) (ho' : off' = off + sz) : OpensVF P (f :: fs) off (sz + sz') (fun x : α × β => a x.1 ++ b x.2) (fun x => oka x.1 ∧ okb x.2) :=
  ⟨fun {H enc W base spare held n cs xs} hl hx hw => by
    match xs, hl with
    | y :: ys, hl =>
      have h0 := hx 0 f rfl
      rw [hf] at h0
      obtain ⟨x, hK, hok⟩ := h.out (y := y) (by simpa using h0) (fun n hn => hw n (by simp only [List.map_cons, DataW.weightsEach, hf]; exact List.mem_append_left _ hn))
      obtain ⟨z, hZ, hokz⟩ := hr.out (cs := cs) (xs := ys) (by simpa using hl) (fun i g hg => hx (i + 1) g hg) (fun n hn => hw n (by simp only [List.map_cons, DataW.weightsEach]; exact List.mem_append_right _ hn))
      rw [ho, hc] at hK
      rw [ho', ← List.drop_drop] at hZ
      refine ⟨(x, z), ?_, hok, hokz⟩
      rw [List.take_add]
      exact VRs_append hK hZ⟩

theorem opensV_struct {P : Program} {t : TypeId} {fs : Array Field} {α : Type} {c : α → List V} {ok : α → Prop} {sz : Nat} (ht : P.underlying t = some (.struct fs)) (h : OpensVF P fs.toList 0 sz c ok) (hc : P.cellsOf t = sz) : OpensV P t c ok :=
  ⟨fun {H enc W base spare held fuel cs y} hy hw => by
    obtain ⟨xs, n, _, rfl, hcl, hl, hx⟩ := DataW.trod_struct ht hy
    simp only [DataW.weights, ht] at hw
    obtain ⟨x, hK, hok⟩ := h.out (cs := cs) (xs := xs) (by simpa using hl) (fun i f hf => hx i f (by simpa using hf)) hw
    rw [List.drop_zero, List.take_of_length_le (by omega)] at hK
    exact ⟨x, hK, hok⟩⟩

/-- The same data under another name. -/
theorem opensV_iso {P : Program} {t : TypeId} {α β : Type} {c : α → List V} {ok : α → Prop} (f : β → α) (g : α → β) (hg : ∀ x, f (g x) = x) (h : OpensV P t c ok) : OpensV P t (fun y => c (f y)) (fun y => ok (f y)) :=
  ⟨fun hy hw => by
    obtain ⟨x, hK, hok⟩ := h.out hy hw
    exact ⟨g x, by show VRs _ (c (f (g x))) _; rw [hg]; exact hK, by show ok (f (g x)); rw [hg]; exact hok⟩⟩

/-- A parameter that is read. -/
theorem opensV_param {P : Program} {t : TypeId} {α : Type} {c : α → List V} {ok : α → Prop} (h : OpensV P t c ok) {H : Type} {enc : TypeId × Value → H} {W : World} {base : Nat} {spare : Nat → Bool} {held : Bool} {v : Value} {y : DataW H} {p : List MemPlace}
    (hd : DataW.Trod enc P W base spare held t v y p) {ts : List TypeId} {ds : List (DataW H)} {j : Nat} (hsz : (DataW.weightsEach P ts ds).all (· ≤ reachBytes) = true) (htj : ts[j]? = some t) (hdj : ds[j]? = some y) :
    ∃ x, VRs (start W) (c x) v.cells.toList ∧ ok x := by
  obtain ⟨fuel, hf⟩ := hd
  exact h.out hf (fun n hn => by
    have := List.all_eq_true.1 hsz n (DataW.weights_mem_each htj hdj n hn)
    simpa using this)

theorem VR_cell {s : Sit} {v : V} {x : Value} (hc : x.cells = #[x]) (h : VRs s [v] x.cells.toList) : VR s v x := by
  rw [hc] at h
  unfold VRs at h
  obtain ⟨y, ys, e, h1, _⟩ := h
  simp only [List.cons.injEq] at e
  rw [e.1]
  exact h1

theorem VR_aggv {s : Sit} {vs : List V} {cs : Array Value} (h : VRs s vs (Value.agg cs).cells.toList) : VR s (.agg vs) (.agg cs) := by
  unfold VR
  exact ⟨cs, rfl, h⟩

/-- What a law's equation tells of its call. -/
theorem calls_of_fn {P : Program} {conv : FuncId → Conv} {ext : Ext} (hm : P.follows .mixedOrders = true) (he : ExtOk P ext) {f : FuncId} {args : List V} {vals : List Value} {W : World} (hv : VRs (start W) args vals) (h : fn P conv ext f args = some (.sc (.bool true))) :
    Calls P f vals.toArray W (fun e w' => e = .returned (.bool true) ∧ Below W.heap.size W w') := by
  unfold fn at h
  split at h
  · rename_i v σ1 n hev
    obtain ⟨p, hp, e⟩ := map_some' h
    obtain ⟨_, _, hsnd⟩ := ev_sound hm he _ _ _ _ _ _ _ hev
    refine (hsnd (start W) vals (start_inv W) (fun _ _ _ => rfl) hv).mono ?_
    rintro e' w' ⟨s', x, rfl, rfl, ho⟩
    refine ⟨?_, ho.nxt.below⟩
    have := strip_sound ho.inv depth v p.1 p.2 x _ hp ho.vr (covers_covered s' σ1 p.2)
    rw [e] at this
    unfold VR at this
    rw [this.1]
  · cases h

end Go.TV
