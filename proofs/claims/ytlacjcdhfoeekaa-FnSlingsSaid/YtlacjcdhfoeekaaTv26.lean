import Derived.Test.YtlacjcdhfoeekaaTv25
import Derived.Laws.StructEq
set_option linter.unusedSimpArgs false
set_option linter.unusedVariables false
namespace Go.TV
theorem evPure_bind {α β : Type} {P : Program} (m : Sem α) (f : α → Sem β) : evPure P (m >>= f) = (evPure P m).bind fun a => evPure P (f a) := by
  show evPure P (m.bind f) = _
  induction m with
  | pure a => rfl
  | program k ih => exact ih P
  | mark m k ih => exact ih
  | _ => rfl
theorem evPure_pure {α : Type} {P : Program} (a : α) : evPure P (pure a : Sem α) = some a := rfl
theorem evPure_program {P : Program} : evPure P program = some P := rfl
theorem evPure_ite {α : Type} {P : Program} (c : Prop) [Decidable c] (a b : Sem α) : evPure P (if c then a else b) = if c then evPure P a else evPure P b := by split <;> rfl
theorem ep_underlying {P : Program} {t : TypeId} {d : TypeDesc} (h : P.underlying t = some d) : evPure P (underlying t) = some d := by
  unfold underlying
  rw [evPure_bind, evPure_program]
  simp only [Option.bind_some, h]
  rfl
theorem ep_equalIn_int {P : Program} (d : Nat) (t : TypeId) (k k' : IntKind) (a b : Int) (h : P.underlying t = some (.int k')) : evPure P (Op.equalIn (d + 1) t (.int k a) (.int k b)) = some (a == b) := by
  unfold Op.equalIn
  rw [evPure_bind, ep_underlying h]
  simp only [Option.bind_some, if_true]
  rfl
theorem ep_equalIn_struct {P : Program} (d : Nat) (t : TypeId) (xs ys : Array Value) (ht : P.underlying t = some (.struct (P.fieldsOf t))) (hp : P.stoodInHeld t = false) :
    evPure P (Op.equalIn (d + 1) t (.agg xs) (.agg ys)) = evPure P (Op.eqFields d xs ys (P.fieldsOf t).toList) := by
  unfold Op.equalIn
  rw [evPure_bind, ep_underlying ht]
  simp only [Option.bind_some, evPure_bind, evPure_program, hp, Bool.false_eq_true, if_false, evPure_pure]
  rw [← Array.forIn_toList]
  generalize (P.fieldsOf t).toList = fs
  clear ht
  induction fs with
  | nil => rfl
  | cons f fs ih =>
    simp only [List.forIn_cons, Op.eqFields, evPure_bind, evPure_ite]
    split
    · cases evPure P (part f.type xs f.offset) with
      | none => rfl
      | some a =>
        cases evPure P (part f.type ys f.offset) with
        | none => rfl
        | some b =>
          simp only [Option.bind_some]
          cases evPure P (Op.equalIn d f.type a b) with
          | none => rfl
          | some r =>
            cases r
            · rfl
            · exact ih
    · exact ih
theorem ep_fields_cons {P : Program} {d : Nat} {xs ys : Array Value} {f : Field} {fs : List Field} {a b : Value} {r : Bool} (hn : f.name ≠ "_") (ha : evPure P (part f.type xs f.offset) = some a) (hb : evPure P (part f.type ys f.offset) = some b) (hr : evPure P (Op.equalIn d f.type a b) = some r) :
    evPure P (Op.eqFields d xs ys (f :: fs)) = if r = true then evPure P (Op.eqFields d xs ys fs) else some false := by
  conv => lhs; rw [Op.eqFields]
  rw [if_pos hn, evPure_bind, ha]
  simp only [Option.bind_some, evPure_bind, hb, hr, evPure_ite]
  cases r <;> rfl
theorem ev_eql_agg {P : Program} {t : TypeId} {x y : Operand} {cs ds : List V} {us vs : List Value} {r : Bool} {fs : Array Field} (hm : P.eqGuardType P.depth t = false) (hf : P.underlying t = some (.struct fs)) (hp : P.stoodInHeld t = false)
    (hu : toCells cs = some us) (hv : toCells ds = some vs) (h : evPure P (Op.eqFields 9999 us.toArray vs.toArray fs.toList) = some r) : evBin P .eql t x y (.agg cs) (.agg ds) = some (.sc (.bool r)) := by
  have hfo : P.fieldsOf t = fs := by unfold Program.fieldsOf; rw [hf]
  have hg : evPure P (eqGuard .eql t x y (.agg us.toArray) (.agg vs.toArray)) = some () := by
    unfold eqGuard
    rw [if_neg (by simp)]
    simp only [evPure_bind, evPure_program, Option.bind_some, hm, Bool.not_false, if_true]
    rfl
  have he : evPure P (binOp .eql t (.agg us.toArray) (.agg vs.toArray)) = some (Value.bool r) := by
    have h1 : binOp .eql t (.agg us.toArray) (.agg vs.toArray) = (Op.equal t (.agg us.toArray) (.agg vs.toArray) >>= fun b => pure (Value.bool b)) := by simp only [binOp]
    have h2 : evPure P (Op.equal t (.agg us.toArray) (.agg vs.toArray)) = some r := (ep_equalIn_struct 9999 t _ _ (by rw [hfo]; exact hf) hp).trans (by rw [hfo]; exact h)
    rw [h1, evPure_bind, h2]; rfl
  simp only [evBin, toVal, hu, hv, Option.map_some, evPure_bind, hg, he, Option.bind_some]
  rfl
end Go.TV
namespace Go.TV
open Go.RowKit

section
variable {P : Program} {conv : FuncId → Conv} {call : Call}

/-- A slice held against nil. -/
theorem run_nil_test {t e : TypeId} {x y : Operand} {p : Option Addr} {len cap : Nat} (h : P.underlying t = some (.slice e)) (w : World) :
    ((do eqGuard .eql t x y (.slice p len cap) (.slice none 0 0); binOp .eql t (.slice p len cap) (.slice none 0 0)) : Sem Value).run P w = .ok (.bool p.isNone) w := by
  refine run_of_evPure _ ?_ w
  rw [evPure_bind, eqGuard_at_slice]
  simp only [evPure_pure, Option.bind_some]
  have h1 : binOp .eql t (.slice p len cap) (.slice none 0 0) = (Op.equal t (.slice p len cap) (.slice none 0 0) >>= fun b => pure (Value.bool b)) := by simp only [binOp]
  rw [h1, evPure_bind]
  have h2 : evPure P (Op.equal t (.slice p len cap) (.slice none 0 0)) = some p.isNone := by
    show evPure P (Op.equalIn (9999 + 1) t _ _) = _
    unfold Op.equalIn
    rw [evPure_bind, ep_underlying h]
    simp only [Option.bind_some]
    cases p <;> rfl
  rw [h2]; rfl

/-- A function that holds a slice against nil once, where both answers lead to one result. -/
theorem fork_sound (hc : CallOk P call) (hm : P.follows .mixedOrders = true) {f : FuncId} {fn : Func} {A B C D : Code} {id t u : Nat} {o1 : Oper} {ty yt oty e : TypeId} {ps : String} {af : Array Edge} (hf : P.funcs[f]? = some fn)
    (hb : fn.body = some (.seq A (.seq (.seq (.region id #[o1, ⟨some t, .binOp .eql ty (.tmp u) (.const (.slice none 0 0)) yt, oty, ps, af, none⟩] false) (.cond (.tmp t) B C)) D)))
    (hty : P.underlying ty = some (.slice e)) {n : Nat} {args : List V}
    (hok : fnOk fn (.seq A (.seq (.seq (.region id #[o1, ⟨some t, .binOp .eql ty (.tmp u) (.const (.slice none 0 0)) yt, oty, ps, af, none⟩] false) (.cond (.tmp t) B C)) D)) args.length = true)
    {σ σ' : Store} {nx nx' : Nat} {vs : List V} {st1 : St} (hA : evCode P conv call n A ⟨argsT args, σ, nx⟩ = some (.norm, st1)) {T2 : Nat → V}
    (hg : o1.guard = none) {v1 : V} (h1 : evOp P conv call o1 st1.T st1.σ st1.nx = some (v1, st1.σ, st1.nx)) (hT2 : T2 = putT st1.T o1.dst v1) {row : List V} {len : Nat} (hu : T2 u = .ts row len)
    (hboth : ∀ b : Bool, (b = true → row = []) → ∃ ex st3, evCode P conv call n (.seq (.cond (.tmp t) B C) D) ⟨upd T2 t (.sc (.bool b)), st1.σ, st1.nx⟩ = some (ex, st3) ∧ (ex = .norm ∨ ex = .ret) ∧ evResults P st3.T st3.σ fn.results.toList = some vs ∧ st3.σ = σ' ∧ st3.nx = nx') :
    SoundAt P f args σ nx (oneOf vs) σ' nx' := by
  unfold fnOk at hok
  simp only [Bool.and_eq_true, decide_eq_true_eq, Bool.not_eq_true'] at hok
  obtain ⟨⟨hname, hsz⟩, hdst⟩ := hok
  simp only [dstOk, Bool.and_eq_true] at hdst
  obtain ⟨hdA, ⟨hdR, hdB, hdC⟩, hdD⟩ := hdst
  have hmA := evCode_mono hc n A _ _ _ hA
  obtain ⟨ex0, st30, hx0, _, _, _, hn0⟩ := hboth false (fun h => by cases h)
  have hm0 : st1.nx ≤ nx' := by have := evCode_mono hc n _ _ _ _ hx0; simp only at this; omega
  have hdd : ∀ o ∈ [o1, (⟨some t, .binOp .eql ty (.tmp u) (.const (.slice none 0 0)) yt, oty, ps, af, none⟩ : Oper)], ∀ d, o.dst = some d → d < fn.ntmps := fun o ho d hod => by
    have := Array.all_eq_true'.1 hdR o (by simpa using ho)
    rw [hod] at this
    simpa using this
  refine ⟨by simp only at hmA; omega, ⟨fn, hf, by rw [hb]; rfl, hname⟩, fun s vals hi hfr hargs => ?_⟩
  have hl := VRs_length hargs
  refine calls_of_wp hf hb ?_
  refine wp_seq (code_sound hc hm (nt := fn.ntmps) (nxE := nx') (s0 := s) (σ0 := σ) (nx0 := nx) n A ⟨argsT args, σ, nx⟩ st1 .norm _ hA hdA (by omega) (fun s1 a1 hs1 => ?_) s _
    ⟨hi, args_tr hargs _, by simp; omega, rfl, .refl s σ, .refl s nx nx, hfr, Nat.le_refl _⟩)
  refine wp_seq (wp_seq (wp_region ?_))
  show wpOps P _ _ [0, 1] a1 s1.w
  have hw : ∀ (o : Oper) (tm : Array Value), o.guard = none → Region.wanted o (yielded #[o1, (⟨some t, .binOp .eql ty (.tmp u) (.const (.slice none 0 0)) yt, oty, ps, af, none⟩ : Oper)] tm) = true := fun o tm h => by unfold Region.wanted; rw [h]
  rw [wpOps_cons]
  unfold wpOp
  rw [show (#[o1, (⟨some t, .binOp .eql ty (.tmp u) (.const (.slice none 0 0)) yt, oty, ps, af, none⟩ : Oper)])[0]? = some o1 from rfl]
  simp only [hw o1 _ hg, if_true]
  refine .inl (op_sound hc h1 hs1.inv hs1.tr (fun i h1 h2 => absurd h2 (by omega)) fun s2 x2 ho2 => ?_)
  have hs2 := hs1.step ho2 (Nat.le_refl _) (hdd o1 (by simp))
  rw [← hT2] at hs2
  generalize a1.put o1.dst x2 = a2 at hs2 ⊢
  rw [wpOps_cons]
  unfold wpOp
  rw [show (#[o1, (⟨some t, .binOp .eql ty (.tmp u) (.const (.slice none 0 0)) yt, oty, ps, af, none⟩ : Oper)])[1]? = some ⟨some t, .binOp .eql ty (.tmp u) (.const (.slice none 0 0)) yt, oty, ps, af, none⟩ from rfl]
  simp only [hw ⟨some t, .binOp .eql ty (.tmp u) (.const (.slice none 0 0)) yt, oty, ps, af, none⟩ _ rfl, if_true]
  have hx := hs2.tr u
  rw [hu] at hx
  unfold VR at hx
  obtain ⟨p, cap, hxe, _, hrow⟩ := hx
  refine .inl (wp_value (w' := s2.w) (x := .bool p.isNone) ?_ ?_)
  · have he : execOp a2.eval ⟨some t, .binOp .eql ty (.tmp u) (.const (.slice none 0 0)) yt, oty, ps, af, none⟩ = (do pure (.value (← (do eqGuard .eql ty (.tmp u) (.const (.slice none 0 0)) (a2.tmps.getD u undef) (.slice none 0 0); binOp .eql ty (a2.tmps.getD u undef) (.slice none 0 0)))) : Sem Next) := rfl
    rw [he, hxe]
    simp only [Sem.run_bind, Sem.run_pure]
    have := run_nil_test (P := P) (x := .tmp u) (y := .const (.slice none 0 0)) (p := p) (len := len) (cap := cap) hty s2.w
    simp only [Sem.run_bind] at this
    rw [this]; rfl
  · obtain ⟨ex, st3, hx3, hex, hres, hσ3, hn3⟩ := hboth p.isNone (fun hp => by
      rcases hrow with h | ⟨k, o, h, _⟩
      · exact h
      · rw [h] at hp; cases hp)
    have hs3 : Sim fn.ntmps nx' s σ nx (upd T2 t (.sc (.bool p.isNone))) st1.σ st1.nx s2 (a2.put (some t) (.bool p.isNone)) :=
      hs2.step (Out.same hs2.inv (by unfold VR; exact ⟨rfl, rfl⟩)) (Nat.le_refl _) (hdd ⟨some t, .binOp .eql ty (.tmp u) (.const (.slice none 0 0)) yt, oty, ps, af, none⟩ (by simp))
    simp only [wpOps]
    show Code.wp P (Code.cond (.tmp t) B C) _ _ _
    have fin : ∀ s3 a3, Sim fn.ntmps nx' s σ nx st3.T st3.σ st3.nx s3 a3 → bodyPost P fn (fun e w' => ∃ s' x, s'.w = w' ∧ e = .returned x ∧ Out s σ nx s' (oneOf vs) x σ' nx') (toExit ex) a3 s3.w := fun s3 a3 hs3 => by
      obtain ⟨xs, g1, g2⟩ := results_sound hs3.inv hs3.tr fn.results.toList vs hres
      have hrun : (results fn a3.tmps).run P s3.w = .ok (if h : xs.toArray.size = 1 then xs.toArray[0] else .tuple xs.toArray) s3.w := by
        rw [results_eq]
        have e1 : fn.results = fn.results.toList.toArray := by simp
        rw [e1, List.mapM_toArray]
        simp only [Sem.run_bind, Sem.run_map, g1, Result.andThen_ok, Sem.run_pure]
      have hpost : bodyPost P fn (fun e w' => ∃ s' x, s'.w = w' ∧ e = .returned x ∧ Out s σ nx s' (oneOf vs) x σ' nx') .normal a3 s3.w := by
        subst hσ3 hn3
        exact ⟨hs3.defers, _, hrun, s3, _, rfl, rfl, ⟨VR_oneOf g2, hs3.inv, hs3.nxt, hs3.dom⟩⟩
      rcases hex with rfl | rfl
      · exact hpost
      · exact hpost
    simp only [evCode] at hx3
    have hdK : dstOk fn.ntmps (Code.cond (.tmp t) B C) = true := by simp only [dstOk, Bool.and_eq_true]; exact ⟨hdB, hdC⟩
    have hcond : ∀ st e st', (match val (St.T st) (.tmp t) with | .sc (.bool true) => evCode P conv call n B st | .sc (.bool false) => evCode P conv call n C st | _ => none) = some (e, st') → evCode P conv call n (.cond (.tmp t) B C) st = some (e, st') := fun _ _ _ h => h
    split at hx3
    · rename_i s1' h1'
      have hmm := evCode_mono hc n D _ _ _ hx3
      refine code_sound hc hm (nxE := nx') n (.cond (.tmp t) B C) ⟨upd T2 t (.sc (.bool p.isNone)), st1.σ, st1.nx⟩ s1' .norm _ (hcond _ _ _ h1') hdK (Nat.le_trans hmm (Nat.le_of_eq hn3)) (fun s3 a3 hs4 => ?_) s2 _ hs3
      exact code_sound hc hm (nxE := nx') n D s1' st3 ex _ hx3 hdD (Nat.le_of_eq hn3) fin s3 a3 hs4
    · rename_i r hne
      refine code_sound hc hm (nxE := nx') n (.cond (.tmp t) B C) ⟨upd T2 t (.sc (.bool p.isNone)), st1.σ, st1.nx⟩ st3 ex _ (hcond _ _ _ hx3) hdK (Nat.le_of_eq hn3) (fun s3 a3 hs4 => ?_) s2 _ hs3
      cases ex with
      | norm => exact absurd hx3 (hne st3)
      | exit id => rcases hex with h | h <;> cases h
      | ret => exact fin s3 a3 hs4
end
end Go.TV
