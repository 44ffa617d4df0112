import Derived.Test.YtlacjcdhfoeekaaTv11
set_option linter.unusedSimpArgs false
set_option linter.unusedVariables false
namespace Go.TV
open Go.RowKit
set_option linter.unusedVariables false
set_option linter.unusedSimpArgs false

def val (T : Nat → V) : Operand → V
  | .tmp t => T t
  | .const v => ofVal v
  | .func f => .clo f []
  | .global _ => .junk

def evLen (P : Program) (t : TypeId) (x : V) : Option V :=
  match x with
  | .sc (.string s) => match P.underlying t with
    | some .string => some (.sc (.int .i64 s.size))
    | _ => none
  | .nil => match P.underlying t with
    | some (.slice _) => some (.sc (.int .i64 0))
    | _ => none
  | .ts _ len | .rs _ _ len => match P.underlying t with
    | some (.slice _) => some (.sc (.int .i64 len))
    | _ => none
  | _ => none

def toVals : List V → Option (List Value)
  | [] => some []
  | v :: vs => match toVal v, toVals vs with
    | some x, some xs => some (x :: xs)
    | _, _ => none

def evBuiltin (P : Program) (b : Builtin) (ts : Array TypeId) (ty : TypeId) (args : List V) (σ : Store) (nx : Nat) : Res :=
  match b, args with
  | .len, [x] => match ts[0]? with
    | some t => (evLen P t x).map (·, σ, nx)
    | none => none
  | .append, [d, x] => if ts.size = 2 then evAppend P ts d x σ nx else none
  | .min, args => match toVals args with
    | some xs => (evPure P (Builtin.min_ ts ty xs.toArray)).bind fun r => if atom r then some (.sc r, σ, nx) else none
    | none => none
  | .max, args => match toVals args with
    | some xs => (evPure P (Builtin.max_ ts ty xs.toArray)).bind fun r => if atom r then some (.sc r, σ, nx) else none
    | none => none
  | _, _ => none

def evOp (P : Program) (conv : FuncId → Conv) (call : Call) (o : Oper) (T : Nat → V) (σ : Store) (nx : Nat) : Res :=
  match o.op with
  | .move x => some (val T x, σ, nx)
  | .assign x => some (val T x, σ, nx)
  | .pick c a b => match val T c with
    | .sc (.bool t) => some (if t then val T a else val T b, σ, nx)
    | _ => none
  | .alloc t => match P.info? t with
    | some i => match i.zero with
      | some z => some (.rp nx 0, evBox σ nx (z.cells.toList.map ofCell) 0, nx + 1)
      | none => none
    | none => none
  | .box t x => match cellsOfV (val T x) with
    | some cs => some (.rp nx 0, evBox σ nx cs 0, nx + 1)
    | none => none
  | .build t parts => (evBuild P t (parts.toList.map fun p => (p.1, val T p.2))).map (·, σ, nx)
  | .buildSlice t len parts => if len = 0 && !parts.isEmpty then none else evBuildSlice P t len (parts.toList.map fun p => (p.1, val T p.2)) σ nx
  | .load t a => (evLoad P σ t (val T a)).map (·, σ, nx)
  | .store t a x => (evStore P σ t (val T a) (val T x)).map (.tup [], ·, nx)
  | .nilCheck x => match val T x with
    | .tp row off => some (.tp row off, σ, nx)
    | .rp b off => some (.rp b off, σ, nx)
    | _ => none
  | .binOp op t x y _ => (evBin P op t x y (val T x) (val T y)).map (·, σ, nx)
  | .unOp op _ x => (evUn P op (val T x)).map (·, σ, nx)
  | .convert s d x => (evConvert P s d (val T x) σ).map (·, σ, nx)
  | .makeFunc fn first cap => match fn with
    | .func f => if first.isEmpty then some (.clo f (cap.toList.map (val T)), σ, nx) else none
    | _ => none
  | .makeSlice t l c => evMake P t (val T l) (val T c) σ nx
  | .slice t x lo hi mx => (evSlice P t (val T x) (lo.map (val T)) (hi.map (val T)) (mx.map (val T)) σ).map (·, σ, nx)
  | .fieldAddr t x f => (evFieldAddr P t (val T x) f).map (·, σ, nx)
  | .field t x f => (evField P t (val T x) f).map (·, σ, nx)
  | .indexAddr t x i => (evIndexAddr P t (val T x) (val T i)).map (·, σ, nx)
  | .index t x i => (evIndex P t (val T x) (val T i)).map (·, σ, nx)
  | .extract t i => match val T t with
    | .tup vs => (vs[i]?).map (·, σ, nx)
    | _ => none
  | .call c => match c.callee with
    | .value f => match val T f with
      | .clo g cs => evCall conv call g (c.args.toList.map (val T) ++ cs) σ nx
      | _ => none
    | .builtin b => evBuiltin P b c.argTypes o.type (c.args.toList.map (val T)) σ nx
    | _ => none
  | _ => none

def TR (s : Sit) (T : Nat → V) (tmps : Array Value) : Prop := ∀ t, VR s (T t) (tmps.getD t undef)

theorem TR.mono {s s' : Sit} {T : Nat → V} {tmps : Array Value} (h : TR s T tmps) (hl : Le s s') : TR s' T tmps := fun t => VR_mono hl _ _ (h t)

theorem val_sound {s : Sit} {T : Nat → V} {a : Act} (h : TR s T a.tmps) (x : Operand) : VR s (val T x) (a.eval x) := by
  cases x with
  | tmp t => exact h t
  | const v => exact VR_ofVal s v
  | global g => unfold val VR; trivial
  | func f => unfold val VR; exact ⟨#[], rfl, by unfold VRs; rfl⟩

theorem vals_sound {s : Sit} {T : Nat → V} {a : Act} (h : TR s T a.tmps) : ∀ xs : List Operand, VRs s (xs.map (val T)) (xs.map a.eval)
  | [] => by unfold VRs; rfl
  | x :: xs => by unfold VRs; exact ⟨_, _, rfl, val_sound h x, vals_sound h xs⟩

theorem toVals_sound {s : Sit} : ∀ {vs : List V} {us xs : List Value}, toVals vs = some us → VRs s vs xs → xs = us
  | [], us, xs, h, hx => by simp only [toVals, Option.some.injEq] at h; unfold VRs at hx; rw [hx, h]
  | v :: vs, us, xs, h, hx => by
    unfold VRs at hx
    obtain ⟨y, ys, rfl, h1, h2⟩ := hx
    unfold toVals at h
    split at h
    · rename_i u us' e1 e2
      simp only [Option.some.injEq] at h; subst h
      rw [toVals_sound e2 h2, toVal_sound e1 h1]
    · cases h

section
variable {P : Program}

theorem wp_value {o : Oper} {a : Act} {w w' : World} {K : Act → World → Prop} {Q : Exit → Act → World → Prop} {x : Value} (h : (execOp a.eval o).run P w = .ok (.value x) w') (hK : K (a.put o.dst x) w') : o.wp P a w K Q := by
  unfold Oper.wp; rw [h]; exact hK
theorem wp_skipped {o : Oper} {a : Act} {w w' : World} {K : Act → World → Prop} {Q : Exit → Act → World → Prop} (h : (execOp a.eval o).run P w = .ok .skip w') (hK : K (a.put o.dst undef) w') : o.wp P a w K Q := by
  unfold Oper.wp; rw [h]; exact hK

theorem len_sound {s : Sit} {t ty : TypeId} {ts : Array TypeId} {x v : V} {y : Value} (ht : ts[0]? = some t) (h : evLen P t x = some v) (hx : VR s x y) :
    ∃ z, (Builtin.len_ ts ty #[y]).run P s.w = .ok z s.w ∧ VR s v z := by
  unfold evLen at h
  split at h
  · split at h
    · rename_i hund
      simp only [Option.some.injEq] at h; subst h
      unfold VR at hx; obtain ⟨rfl, _⟩ := hx
      exact ⟨_, by simp [Builtin.len_, ht, run_underlying hund, goInt], VR_sc rfl⟩
    · cases h
  · split at h
    · rename_i hund
      simp only [Option.some.injEq] at h; subst h
      unfold VR at hx; obtain ⟨a, rfl⟩ := hx
      exact ⟨_, by simp [Builtin.len_, ht, run_underlying hund, goInt], VR_sc rfl⟩
    · cases h
  · split at h
    · rename_i hund
      simp only [Option.some.injEq] at h; subst h
      unfold VR at hx; obtain ⟨a, cap, rfl, _⟩ := hx
      exact ⟨_, by simp [Builtin.len_, ht, run_underlying hund, goInt], VR_sc rfl⟩
    · cases h
  · split at h
    · rename_i hund
      simp only [Option.some.injEq] at h; subst h
      unfold VR at hx; obtain ⟨l, cap, _, rfl, _⟩ := hx
      exact ⟨_, by simp [Builtin.len_, ht, run_underlying hund, goInt], VR_sc rfl⟩
    · cases h
  · cases h

theorem builtin_sound {s : Sit} {σ : Store} (hi : Inv s σ) {b : Builtin} {ts : Array TypeId} {ty : TypeId} {consts : Array Bool} {args : List V} {vals : List Value} {nx nx' : Nat} {v : V} {σ' : Store} (h : evBuiltin P b ts ty args σ nx = some (v, σ', nx'))
    (hn : Fresh s nx nx') (ha : VRs s args vals) : ∃ s' y, (builtin b ts ty consts vals.toArray).run P s.w = .ok (.value y) s'.w ∧ Out s σ nx s' v y σ' nx' := by
  unfold evBuiltin at h
  split at h
  · rename_i x
    split at h
    · rename_i t ht
      cases he : evLen P t x with
      | none => rw [he] at h; cases h
      | some u =>
        rw [he] at h
        simp only [Option.map_some, Option.some.injEq, Prod.mk.injEq] at h; obtain ⟨rfl, rfl, rfl⟩ := h
        unfold VRs at ha
        obtain ⟨y, ys, rfl, hy, hys⟩ := ha
        unfold VRs at hys
        subst hys
        obtain ⟨z, hz, hr⟩ := len_sound (ty := ty) ht he hy
        exact ⟨s, z, by simp [builtin, hz], Out.same hi hr⟩
    · cases h
  · rename_i d x
    split at h
    · rename_i h2
      unfold VRs at ha
      obtain ⟨y, ys, rfl, hy, hys⟩ := ha
      unfold VRs at hys
      obtain ⟨z, zs, rfl, hz, hzs⟩ := hys
      unfold VRs at hzs
      subst hzs
      obtain ⟨s', u, hu, ho⟩ := append_sound (ty := ty) hi h h2 hn hy hz
      exact ⟨s', u, by simp [builtin, hu], ho⟩
    · cases h
  · split at h
    · rename_i xs hxs
      rw [toVals_sound hxs ha]
      cases hp : evPure P (Builtin.min_ ts ty xs.toArray) with
      | none => rw [hp] at h; cases h
      | some r =>
        rw [hp] at h
        simp only [Option.bind_some] at h
        split at h
        · rename_i hat
          simp only [Option.some.injEq, Prod.mk.injEq] at h; obtain ⟨rfl, rfl, rfl⟩ := h
          exact ⟨s, r, by simp [builtin, run_of_evPure _ hp], Out.same hi (VR_sc hat)⟩
        · cases h
    · cases h
  · split at h
    · rename_i xs hxs
      rw [toVals_sound hxs ha]
      cases hp : evPure P (Builtin.max_ ts ty xs.toArray) with
      | none => rw [hp] at h; cases h
      | some r =>
        rw [hp] at h
        simp only [Option.bind_some] at h
        split at h
        · rename_i hat
          simp only [Option.some.injEq, Prod.mk.injEq] at h; obtain ⟨rfl, rfl, rfl⟩ := h
          exact ⟨s, r, by simp [builtin, run_of_evPure _ hp], Out.same hi (VR_sc hat)⟩
        · cases h
    · cases h
  · cases h

theorem map_some' {α β : Type} {o : Option α} {f : α → β} {b : β} (h : o.map f = some b) : ∃ a, o = some a ∧ f a = b := by
  cases o with
  | none => cases h
  | some a => exact ⟨a, rfl, by simpa using h⟩

theorem op_sound {conv : FuncId → Conv} {call : Call} (hc : CallOk P call) {o : Oper} {T : Nat → V} {σ σ' : Store} {nx nx' : Nat} {v : V} (h : evOp P conv call o T σ nx = some (v, σ', nx')) {s : Sit} {a : Act} (hi : Inv s σ) (hT : TR s T a.tmps) (hn : Fresh s nx nx')
    {K : Act → World → Prop} {Q : Exit → Act → World → Prop} (hK : ∀ s' x, Out s σ nx s' v x σ' nx' → K (a.put o.dst x) s'.w) : o.wp P a s.w K Q := by
  obtain ⟨dst, op, type, pos, after, guard⟩ := o
  have hv := fun x => val_sound hT x
  have pureCase : ∀ (m : Sem Value) (z : Value), (execOp a.eval ⟨dst, op, type, pos, after, guard⟩) = (do pure (.value (← m)) : Sem Next) → m.run P s.w = .ok z s.w → VR s v z → σ' = σ → Oper.wp P ⟨dst, op, type, pos, after, guard⟩ a s.w K Q := by
    intro m z he hr hz hs
    subst hs
    refine wp_value (w' := s.w) (x := z) (by rw [he]; simp [hr]) (hK s z (Out.same hi hz))
  cases op <;> simp only [evOp] at h
  case move x =>
    simp only [Option.some.injEq, Prod.mk.injEq] at h; obtain ⟨rfl, rfl, rfl⟩ := h
    exact wp_value (w' := s.w) rfl (hK s _ (Out.same hi (hv x)))
  case assign x =>
    simp only [Option.some.injEq, Prod.mk.injEq] at h; obtain ⟨rfl, rfl, rfl⟩ := h
    exact wp_value (w' := s.w) rfl (hK s _ (Out.same hi (hv x)))
  case pick c x y =>
    split at h
    · rename_i t hct
      simp only [Option.some.injEq, Prod.mk.injEq] at h; obtain ⟨rfl, rfl, rfl⟩ := h
      have hcv := hv c
      rw [hct] at hcv
      unfold VR at hcv
      refine wp_value (w' := s.w) (x := if t then a.eval x else a.eval y) (by simp [execOp, hcv.1, asBool]) (hK s _ (Out.same hi ?_))
      cases t
      · exact hv y
      · exact hv x
    · cases h
  case alloc t =>
    split at h
    · rename_i i hinf
      split at h
      · rename_i z hz
        simp only [Option.some.injEq, Prod.mk.injEq] at h; obtain ⟨rfl, rfl, rfl⟩ := h
        obtain ⟨s', y, h1, h2⟩ := alloc_sound (P := P) hi hn hinf hz
        exact wp_value (by simp [execOp, h1]) (hK s' y h2)
      · cases h
    · cases h
  case box t x =>
    split at h
    · rename_i cs hcs
      simp only [Option.some.injEq, Prod.mk.injEq] at h; obtain ⟨rfl, rfl, rfl⟩ := h
      obtain ⟨s', y, h1, h2⟩ := box_sound (P := P) hi hn (t := t) (cellsOfV_sound hcs (hv x))
      exact wp_value (by simp [execOp, h1]) (hK s' y h2)
    · cases h
  case build t parts =>
    obtain ⟨u, hu, he⟩ := map_some' h
    simp only [Prod.mk.injEq] at he; obtain ⟨rfl, rfl, rfl⟩ := he
    obtain ⟨z, hz, hr⟩ := build_sound (ps := parts.map fun p => (p.1, a.eval p.2)) hu (by simp) (fun i p q h1 h2 => by
      simp only [Array.toList_map, List.getElem?_map] at h1 h2
      cases hp : parts.toList[i]? with
      | none => rw [hp] at h1; cases h1
      | some e =>
        rw [hp] at h1 h2
        simp only [Option.map_some, Option.some.injEq] at h1 h2
        subst h1; subst h2; exact hv _)
    exact pureCase _ z rfl hz hr rfl
  case buildSlice t len parts =>
    split at h
    · cases h
    · rename_i hne
      obtain ⟨s', y, h1, h2⟩ := buildSlice_sound (ps := parts.map fun p => (p.1, a.eval p.2)) hi h hn (by simp) (fun i p q h1 h2 => by
        simp only [Array.toList_map, List.getElem?_map] at h1 h2
        cases hp : parts.toList[i]? with
        | none => rw [hp] at h1; cases h1
        | some e =>
          rw [hp] at h1 h2
          simp only [Option.map_some, Option.some.injEq] at h1 h2
          subst h1; subst h2; exact hv _) (fun hl => by
        rw [hl] at hne
        simp only [decide_true, Bool.true_and, Bool.not_eq_true', Bool.not_eq_false] at hne
        have : parts = #[] := by simpa using hne
        rw [this]; simp)
      exact wp_value (by simp [execOp, h1]) (hK s' y h2)
  case load t x =>
    obtain ⟨u, hu, he⟩ := map_some' h
    simp only [Prod.mk.injEq] at he; obtain ⟨rfl, rfl, rfl⟩ := he
    obtain ⟨z, hz, hr⟩ := load_sound hi (hv x) hu
    exact pureCase _ z rfl hz hr rfl
  case store t x y =>
    obtain ⟨u, hu, he⟩ := map_some' h
    simp only [Prod.mk.injEq] at he; obtain ⟨rfl, rfl, rfl⟩ := he
    obtain ⟨w', h1, h2, h3⟩ := store_sound hi (hv x) (hv y) hu
    exact wp_skipped (w' := w') (by simp [execOp, h1]) (hK { s with w := w' } undef ⟨by unfold VR; exact ⟨#[], rfl, by unfold VRs; rfl⟩, h2, h3, fun i h => .inl h⟩)
  case nilCheck x =>
    have hx := hv x
    split at h
    · rename_i row off e
      simp only [Option.some.injEq, Prod.mk.injEq] at h; obtain ⟨rfl, rfl, rfl⟩ := h
      rw [e] at hx
      have hx0 := hx
      unfold VR at hx
      obtain ⟨k, o, he, _⟩ := hx
      exact wp_value (w' := s.w) (x := a.eval x) (by simp only [execOp, he]; rfl) (hK s _ (Out.same hi hx0))
    · rename_i b off e
      simp only [Option.some.injEq, Prod.mk.injEq] at h; obtain ⟨rfl, rfl, rfl⟩ := h
      rw [e] at hx
      have hx0 := hx
      unfold VR at hx
      obtain ⟨l, _, he⟩ := hx
      exact wp_value (w' := s.w) (x := a.eval x) (by simp only [execOp, he]; rfl) (hK s _ (Out.same hi hx0))
    · cases h
  case binOp op t x y yt =>
    obtain ⟨u, hu, he⟩ := map_some' h
    simp only [Prod.mk.injEq] at he; obtain ⟨rfl, rfl, rfl⟩ := he
    obtain ⟨z, hz, hr⟩ := bin_sound hu (hv x) (hv y)
    exact pureCase _ z rfl hz hr rfl
  case unOp op t x =>
    obtain ⟨u, hu, he⟩ := map_some' h
    simp only [Prod.mk.injEq] at he; obtain ⟨rfl, rfl, rfl⟩ := he
    obtain ⟨z, hz, hr⟩ := un_sound hu (hv x)
    exact pureCase _ z rfl hz hr rfl
  case convert sr ds x =>
    obtain ⟨u, hu, he⟩ := map_some' h
    simp only [Prod.mk.injEq] at he; obtain ⟨rfl, rfl, rfl⟩ := he
    obtain ⟨z, hz, hr⟩ := convert_sound hi hu (hv x)
    exact pureCase _ z rfl hz hr rfl
  case makeFunc fn first cap =>
    split at h
    · split at h
      · rename_i f hfe
        simp only [Option.some.injEq, Prod.mk.injEq] at h; obtain ⟨rfl, rfl, rfl⟩ := h
        have : first = #[] := by simpa using hfe
        subst this
        refine pureCase (Instr.makeFunc (.func f) #[] (cap.map a.eval)) (.func (.func f) #[] (cap.map a.eval)) (by simp [execOp]) rfl ?_ rfl
        unfold VR
        exact ⟨_, rfl, by rw [Array.toList_map]; exact vals_sound hT _⟩
      · cases h
    · cases h
  case makeSlice t l c =>
    obtain ⟨s', y, h1, h2⟩ := make_sound hi h hn (hv l) (hv c)
    exact wp_value (by simp [execOp, h1]) (hK s' y h2)
  case slice t x lo hi' mx =>
    obtain ⟨u, hu, he⟩ := map_some' h
    simp only [Prod.mk.injEq] at he; obtain ⟨rfl, rfl, rfl⟩ := he
    have q : ∀ (o : Option Operand) (v : V), o.map (val T) = some v → ∃ x, o.map a.eval = some x ∧ VR s v x := fun o v h => by
      obtain ⟨y, rfl, rfl⟩ := map_some' h
      exact ⟨_, rfl, hv y⟩
    have qn : ∀ (o : Option Operand), o.map (val T) = none → o.map a.eval = none := fun o h => by
      cases o with
      | none => rfl
      | some y => cases h
    obtain ⟨z, hz, hr⟩ := slice_sound hi hu (hv x) (q lo) (qn lo) (q hi') (qn hi') (q mx) (qn mx)
    exact pureCase _ z rfl hz hr rfl
  case fieldAddr t x f =>
    obtain ⟨u, hu, he⟩ := map_some' h
    simp only [Prod.mk.injEq] at he; obtain ⟨rfl, rfl, rfl⟩ := he
    obtain ⟨z, hz, hr⟩ := fieldAddr_sound hu (hv x)
    exact pureCase _ z rfl hz hr rfl
  case field t x f =>
    obtain ⟨u, hu, he⟩ := map_some' h
    simp only [Prod.mk.injEq] at he; obtain ⟨rfl, rfl, rfl⟩ := he
    obtain ⟨z, hz, hr⟩ := field_sound hu (hv x)
    exact pureCase _ z rfl hz hr rfl
  case indexAddr t x i =>
    obtain ⟨u, hu, he⟩ := map_some' h
    simp only [Prod.mk.injEq] at he; obtain ⟨rfl, rfl, rfl⟩ := he
    obtain ⟨z, hz, hr⟩ := indexAddr_sound hu (hv x) (hv i)
    exact pureCase _ z rfl hz hr rfl
  case index t x i =>
    obtain ⟨u, hu, he⟩ := map_some' h
    simp only [Prod.mk.injEq] at he; obtain ⟨rfl, rfl, rfl⟩ := he
    obtain ⟨z, hz, hr⟩ := index_sound hu (hv x) (hv i)
    exact pureCase _ z rfl hz hr rfl
  case extract t i =>
    split at h
    · rename_i vs e
      obtain ⟨u, hu, he⟩ := map_some' h
      simp only [Prod.mk.injEq] at he; obtain ⟨rfl, rfl, rfl⟩ := he
      have ht := hv t
      rw [e] at ht
      unfold VR at ht
      obtain ⟨xs, hx, hr⟩ := ht
      obtain ⟨z, hz, hrz⟩ := VRs_get hr hu
      rw [Array.getElem?_toList] at hz
      refine pureCase (Instr.extract (a.eval t) i) z rfl ?_ hrz rfl
      rw [hx]
      simp [Instr.extract, hz]
    · cases h
  case call c =>
    obtain ⟨callee, args, argTypes⟩ := c
    cases callee with
    | value f =>
      simp only at h
      split at h
      · rename_i g cs e
        have hf := hv f
        rw [e] at hf
        unfold VR at hf
        obtain ⟨xs, hx, hr⟩ := hf
        obtain ⟨hnn, ⟨fn, hfn, hbody, hname⟩, hsnd⟩ := evCall_sound hc h
        have hargs : VRs s (args.toList.map (val T) ++ cs) ((args.map a.eval).toList ++ xs.toList) := by
          rw [Array.toList_map]; exact VRs_append (vals_sound hT _) hr
        have hcalls := hsnd s _ hi hn hargs
        have harr : ((args.map a.eval).toList ++ xs.toList).toArray = args.map a.eval ++ xs := by
          apply Array.ext'; simp
        rw [harr] at hcalls
        have hex : (execOp a.eval ⟨dst, .call ⟨.value f, args, argTypes⟩, type, pos, after, guard⟩).run P s.w = .ok (.enter g (args.map a.eval ++ xs)) s.w := by
          have h1 : ¬ fn.name = "runtime.NumGoroutine" := by simpa using hname
          have h2 : ¬ fn.body = none := fun e => by rw [e] at hbody; cases hbody
          simp [execOp, resolve, hx, Deferred.ofValue, invoke, callFunc, program, Sem.run, hfn, h1, h2]
        unfold Oper.wp
        rw [hex]
        simp only [Oper.upon]
        refine hcalls.mono ?_
        rintro e w' ⟨s', x, rfl, rfl, ho⟩
        exact hK s' x ho
      · cases h
    | builtin b =>
      simp only at h
      obtain ⟨s', y, h1, h2⟩ := builtin_sound (consts := args.map fun | .const _ => true | _ => false) hi h hn (vals_sound hT _)
      have harr : (args.toList.map a.eval).toArray = args.map a.eval := by apply Array.ext'; simp
      rw [harr] at h1
      exact wp_value (by simp [execOp, resolve, invoke]; exact h1) (hK s' y h2)
    | invoke r m => simp only at h; cases h
  all_goals cases h

end
end Go.TV
