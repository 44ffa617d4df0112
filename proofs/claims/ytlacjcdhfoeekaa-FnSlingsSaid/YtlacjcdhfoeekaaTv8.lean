import Derived.Test.YtlacjcdhfoeekaaTv7
set_option linter.unusedSimpArgs false
set_option linter.unusedVariables false
namespace Go.TV
open Go.RowKit
set_option linter.unusedVariables false
set_option linter.unusedSimpArgs false

section
variable {P : Program}

theorem fieldAddr_sound {s : Sit} {t : TypeId} {x v : V} {y : Value} {f : Nat} (h : evFieldAddr P t x f = some v) (hx : VR s x y) :
    ∃ z, (Instr.fieldAt t y f).run P s.w = .ok z s.w ∧ VR s v z := by
  unfold evFieldAddr at h
  split at h
  · rename_i fields hund
    split at h
    · rename_i fd hfd
      split at h
      · rename_i i hinf
        split at h
        · cases h
        · rename_i hs
          have hp : ∀ a : Addr, (fieldPlace a fd).run P s.w = .ok (a.add fd.offset) s.w := fun a => by simp [fieldPlace, run_sizeOf hinf, hs]
          split at h
          · rename_i row off
            simp only [Option.some.injEq] at h; subst h
            unfold VR at hx
            obtain ⟨k, o, rfl, hr⟩ := hx
            refine ⟨.pointer (some ⟨k, o + off + fd.offset, none⟩), ?_, by unfold VR; exact ⟨k, o, by rw [Nat.add_assoc], hr⟩⟩
            simp [Instr.fieldAt, run_underlying hund, hfd, Instr.sureAddr, hp, Addr.add_lit]
          · rename_i b off
            simp only [Option.some.injEq] at h; subst h
            unfold VR at hx
            obtain ⟨l, hl, rfl⟩ := hx
            refine ⟨.pointer (some ⟨l.k, l.o + off + fd.offset, none⟩), ?_, by unfold VR; exact ⟨l, hl, by rw [Nat.add_assoc]⟩⟩
            simp [Instr.fieldAt, run_underlying hund, hfd, Instr.sureAddr, hp, Addr.add_lit]
          · cases h
      · cases h
    · cases h
  · cases h

theorem part_sound {s : Sit} {t : TypeId} {cs : List V} {xs : Array Value} {off : Nat} {v : V} (h : evPart P t cs off = some v) (hr : VRs s cs xs.toList) :
    ∃ z, (part t xs off).run P s.w = .ok z s.w ∧ VR s v z := by
  unfold evPart at h
  split at h
  · rename_i i d hinf hund
    split at h
    · rename_i hag
      simp only [Option.some.injEq] at h; subst h
      refine ⟨.agg (xs.extract off (off + i.size)), ?_, ?_⟩
      · simp [part, run_isAgg hund, hag, run_sizeOf hinf]
      · unfold VR
        refine ⟨_, rfl, ?_⟩
        have : (xs.extract off (off + i.size)).toList = (xs.toList.drop off).take i.size := by
          rw [Array.toList_extract, List.extract_eq_take_drop, Nat.add_sub_cancel_left]
        rw [this]
        exact VRs_take (VRs_drop hr _) _
    · rename_i hag
      obtain ⟨x, hx, hrx⟩ := VRs_get hr h
      rw [Array.getElem?_toList] at hx
      exact ⟨x, by simp [part, run_isAgg hund, hag, hx], hrx⟩
  · cases h

theorem field_sound {s : Sit} {t : TypeId} {x v : V} {y : Value} {f : Nat} (h : evField P t x f = some v) (hx : VR s x y) :
    ∃ z, (Instr.field t y f).run P s.w = .ok z s.w ∧ VR s v z := by
  unfold evField at h
  split at h
  · rename_i fields cs hund
    split at h
    · rename_i fd hfd
      unfold VR at hx
      obtain ⟨xs, rfl, hr⟩ := hx
      obtain ⟨z, hz, hrz⟩ := part_sound h hr
      exact ⟨z, by simp [Instr.field, run_underlying hund, hfd, asAgg, hz], hrz⟩
    · cases h
  · cases h

theorem indexAddr_sound {s : Sit} {t : TypeId} {x i v : V} {y yi : Value} (h : evIndexAddr P t x i = some v) (hx : VR s x y) (hi : VR s i yi) :
    ∃ z, (Instr.indexAt t y yi).run P s.w = .ok z s.w ∧ VR s v z := by
  unfold evIndexAddr at h
  split at h
  · rename_i elem k i hund
    unfold VR at hi
    obtain ⟨rfl, _⟩ := hi
    split at h
    · rename_i e hinf
      split at h
      · rename_i row len
        split at h
        · rename_i hc
          simp only [Option.some.injEq] at h; subst h
          unfold VR at hx
          obtain ⟨a, cap, rfl, hcap, hr⟩ := hx
          rcases hr with hr | ⟨k', o, rfl, hr⟩
          · exact absurd hr hc.2.2
          · refine ⟨.pointer (some ⟨k', o + i.toNat * e.size, none⟩), ?_, by unfold VR; exact ⟨k', o, rfl, hr⟩⟩
            simp [Instr.indexAt, asIntOf, run_underlying hund, hc.1, hc.2.1, run_sizeOf hinf, Addr.add_lit]
        · cases h
      · rename_i b off len
        split at h
        · rename_i hc
          simp only [Option.some.injEq] at h; subst h
          unfold VR at hx
          obtain ⟨l, cap, hl, rfl, hcap, hend⟩ := hx
          refine ⟨.pointer (some ⟨l.k, l.o + off + i.toNat * e.size, none⟩), ?_, by unfold VR; exact ⟨l, hl, by rw [Nat.add_assoc]⟩⟩
          simp [Instr.indexAt, asIntOf, run_underlying hund, hc.1, hc.2, run_sizeOf hinf, Addr.add_lit]
        · cases h
      · cases h
    · cases h
  · rename_i n elem k i hund
    unfold VR at hi
    obtain ⟨rfl, _⟩ := hi
    split at h
    · rename_i e hinf
      split at h
      · rename_i hc
        split at h
        · rename_i row off
          simp only [Option.some.injEq] at h; subst h
          unfold VR at hx
          obtain ⟨k', o, rfl, hr⟩ := hx
          refine ⟨.pointer (some ⟨k', o + off + i.toNat * e.size, none⟩), ?_, by unfold VR; exact ⟨k', o, by rw [Nat.add_assoc], hr⟩⟩
          simp [Instr.indexAt, asIntOf, run_underlying hund, hc.1, hc.2, run_sizeOf hinf, Addr.add_lit, Instr.sureAddr]
        · rename_i b off
          simp only [Option.some.injEq] at h; subst h
          unfold VR at hx
          obtain ⟨l, hl, rfl⟩ := hx
          refine ⟨.pointer (some ⟨l.k, l.o + off + i.toNat * e.size, none⟩), ?_, by unfold VR; exact ⟨l, hl, by rw [Nat.add_assoc]⟩⟩
          simp [Instr.indexAt, asIntOf, run_underlying hund, hc.1, hc.2, run_sizeOf hinf, Addr.add_lit, Instr.sureAddr]
        · cases h
      · cases h
    · cases h
  · cases h

theorem index_sound {s : Sit} {t : TypeId} {x i v : V} {y yi : Value} (h : evIndex P t x i = some v) (hx : VR s x y) (hi : VR s i yi) :
    ∃ z, (Instr.index t y yi).run P s.w = .ok z s.w ∧ VR s v z := by
  unfold evIndex at h
  split at h
  · rename_i str
    unfold VR at hx
    obtain ⟨rfl, _⟩ := hx
    split at h
    · rename_i k i
      unfold VR at hi
      obtain ⟨rfl, _⟩ := hi
      split at h
      · rename_i hund
        split at h
        · rename_i b hb
          simp only [Option.some.injEq] at h; subst h
          refine ⟨.int .u8 b.toNat, ?_, VR_sc rfl⟩
          simp only [Instr.index, Sem.run_bind, asIntOf, Sem.run_pure, Result.andThen_ok, run_underlying hund]
          rw [hb]
          simp
        · cases h
      · cases h
    · cases h
  · rename_i cs
    unfold VR at hx
    obtain ⟨xs, rfl, hr⟩ := hx
    split at h
    · rename_i n elem k i hund
      unfold VR at hi
      obtain ⟨rfl, _⟩ := hi
      split at h
      · rename_i e hinf
        split at h
        · rename_i hc
          obtain ⟨z, hz, hrz⟩ := part_sound h hr
          exact ⟨z, by simp [Instr.index, asIntOf, run_underlying hund, hc.1, hc.2, run_sizeOf hinf, hz], hrz⟩
        · cases h
      · cases h
    · cases h
  · cases h

theorem isRef_sound {s : Sit} {a : V} {x : Value} (h : isRef a = true) (hx : VR s a x) : ∃ p, x = .pointer (some p) := by
  cases a <;> simp only [isRef, Bool.false_eq_true] at h <;> unfold VR at hx
  · obtain ⟨k, o, rfl, _⟩ := hx; exact ⟨_, rfl⟩
  · obtain ⟨l, _, rfl⟩ := hx; exact ⟨_, rfl⟩

theorem isNilP_sound {s : Sit} {a : V} {x : Value} (h : isNilP a = true) (hx : VR s a x) : x = .pointer none := by
  unfold isNilP at h
  split at h
  · unfold VR at hx; exact hx.1
  · cases h

theorem run_equal_some_nil {t el : TypeId} (h : P.underlying t = some (.pointer el)) (p : Addr) (w : World) : (Op.equal t (.pointer (some p)) (.pointer none)).run P w = .ok false w := by
  unfold Op.equal Op.maxDepth
  rw [show (10000 : Nat) = 9999 + 1 from rfl]
  unfold Op.equalIn
  simp only [Sem.run_bind, run_underlying h, Result.andThen_ok, Sem.run_pure]
theorem run_equal_nil_some {t el : TypeId} (h : P.underlying t = some (.pointer el)) (p : Addr) (w : World) : (Op.equal t (.pointer none) (.pointer (some p))).run P w = .ok false w := by
  unfold Op.equal Op.maxDepth
  rw [show (10000 : Nat) = 9999 + 1 from rfl]
  unfold Op.equalIn
  simp only [Sem.run_bind, run_underlying h, Result.andThen_ok, Sem.run_pure, Option.isNone_some]

theorem bin_sound {s : Sit} {op : BinOp} {t : TypeId} {x y : Operand} {a b v : V} {u u' : Value} (h : evBin P op t x y a b = some v) (ha : VR s a u) (hb : VR s b u') :
    ∃ z, (do eqGuard op t x y u u'; binOp op t u u' : Sem Value).run P s.w = .ok z s.w ∧ VR s v z := by
  unfold evBin at h
  split at h
  · rename_i p q e1 e2
    rw [toVal_sound e1 ha, toVal_sound e2 hb]
    cases hp : evPure P (do eqGuard op t x y p q; binOp op t p q) with
    | none => rw [hp] at h; cases h
    | some r =>
      rw [hp] at h
      simp only [Option.bind_some] at h
      split at h
      · rename_i hat
        simp only [Option.some.injEq] at h; subst h
        exact ⟨r, run_of_evPure _ hp _, VR_sc hat⟩
      · cases h
  · have key : ∀ {el : TypeId}, P.underlying t = some (.pointer el) → (isRef a && isNilP b || isRef b && isNilP a) = true →
        (Op.equal t u u').run P s.w = .ok false s.w ∧ (∀ op, eqGuard op t x y u u' = pure ()) ∧ (binOp .eql t u u' = do pure (.bool (← Op.equal t u u'))) ∧ (binOp .neq t u u' = do pure (.bool (!(← Op.equal t u u')))) := by
      intro el hund hc
      rw [Bool.or_eq_true, Bool.and_eq_true, Bool.and_eq_true] at hc
      rcases hc with ⟨h1, h2⟩ | ⟨h1, h2⟩
      · obtain ⟨p, rfl⟩ := isRef_sound h1 ha
        have := isNilP_sound h2 hb
        subst this
        exact ⟨run_equal_some_nil hund _ _, fun op => eqGuard_at_pointer op t x y _ _, rfl, rfl⟩
      · obtain ⟨p, rfl⟩ := isRef_sound h1 hb
        have := isNilP_sound h2 ha
        subst this
        exact ⟨run_equal_nil_some hund _ _, fun op => eqGuard_at_pointer op t x y _ _, rfl, rfl⟩
    split at h
    · rename_i el hund
      split at h
      · rename_i hc
        simp only [Option.some.injEq] at h; subst h
        obtain ⟨h1, h2, h3, _⟩ := key hund hc
        exact ⟨.bool false, by simp [h2, h3, h1], VR_sc rfl⟩
      · cases h
    · rename_i el hund
      split at h
      · rename_i hc
        simp only [Option.some.injEq] at h; subst h
        obtain ⟨h1, h2, _, h3⟩ := key hund hc
        exact ⟨.bool true, by simp [h2, h3, h1], VR_sc rfl⟩
      · cases h
    · cases h

theorem un_sound {s : Sit} {op : UnOp} {a v : V} {u : Value} (h : evUn P op a = some v) (ha : VR s a u) :
    ∃ z, (Op.unary op u).run P s.w = .ok z s.w ∧ VR s v z := by
  unfold evUn at h
  split at h
  · rename_i p e1
    rw [toVal_sound e1 ha]
    cases hp : evPure P (Op.unary op p) with
    | none => rw [hp] at h; cases h
    | some r =>
      rw [hp] at h
      simp only [Option.bind_some] at h
      split at h
      · rename_i hat
        simp only [Option.some.injEq] at h; subst h
        exact ⟨r, run_of_evPure _ hp _, VR_sc hat⟩
      · cases h
  · cases h

theorem bytesOfRow_sound {s : Sit} : ∀ {row : List V} {xs : List Value} {l : List UInt8}, bytesOfRow row = some l → VRs s row xs → xs = l.map (fun b => Value.int .u8 b.toNat)
  | [], xs, l, h, hr => by simp only [bytesOfRow, Option.some.injEq] at h; subst h; unfold VRs at hr; exact hr
  | v :: vs, xs, l, h, hr => by
    unfold bytesOfRow at h
    split at h
    · rename_i e; cases e
    · rename_i n vs' e
      cases e
      split at h
      · rename_i hn
        cases hb : bytesOfRow vs with
        | none => rw [hb] at h; cases h
        | some l' =>
          rw [hb] at h
          simp only [Option.map_some, Option.some.injEq] at h; subst h
          unfold VRs at hr
          obtain ⟨y, ys, rfl, h1, h2⟩ := hr
          unfold VR at h1
          obtain ⟨rfl, _⟩ := h1
          rw [bytesOfRow_sound hb h2]
          simp only [List.map_cons, List.cons.injEq, and_true, Value.int.injEq, true_and]
          simp
          omega
      · cases h
    · cases h

theorem foldl_push : ∀ (l : List UInt8) (r : ByteArray), (l.map (fun b => (b.toNat : Int))).foldl (fun (r : ByteArray) (n : Int) => r.push (UInt8.ofNat n.toNat)) r = r ++ ⟨l.toArray⟩
  | [], r => by
    simp only [List.map_nil, List.foldl_nil]
    apply ByteArray.ext
    simp
  | b :: l, r => by
    simp only [List.map_cons, List.foldl_cons]
    rw [foldl_push l]
    apply ByteArray.ext
    simp [ByteArray.push]

theorem convert_sound {s : Sit} {σ : Store} (hi : Inv s σ) {src dst : TypeId} {a v : V} {u : Value} (h : evConvert P src dst a σ = some v) (ha : VR s a u) :
    ∃ z, (convert src dst u).run P s.w = .ok z s.w ∧ VR s v z := by
  unfold evConvert at h
  split at h
  · rename_i p e1
    rw [toVal_sound e1 ha]
    cases hp : evPure P (convert src dst p) with
    | none => rw [hp] at h; cases h
    | some r =>
      rw [hp] at h
      simp only [Option.bind_some] at h
      split at h
      · rename_i hat
        simp only [Option.some.injEq] at h; subst h
        exact ⟨r, run_of_evPure _ hp _, VR_sc hat⟩
      · cases h
  · split at h
    · rename_i e hsrc hdst
      split at h
      · rename_i i he hinf
        split at h
        · split at h
          · rename_i row len hrow
            cases hb : bytesOfRow row with
            | none => rw [hb] at h; cases h
            | some l =>
              rw [hb] at h
              simp only [Option.map_some, Option.some.injEq] at h; subst h
              obtain ⟨ao, cap, rfl, hcap, hlen, hr⟩ := rowOf_sound hi ha hrow
              refine ⟨.string ⟨l.toArray⟩, ?_, VR_sc rfl⟩
              rw [run_convert_bytes_string s.w src dst e ao len cap hsrc he hdst]
              rcases hr with rfl | ⟨k, o, rfl, cs, hcs, hrd⟩
              · simp only [bytesOfRow, Option.some.injEq] at hb; subst hb
                have : len = 0 := by simpa using hlen.symm
                subst this
                cases ao with
                | none => simp [Conv.bytesToString]; rfl
                | some a =>
                  rw [run_bytesToString s.w a 0 cap [] (by simp [loadCells, loadCellsFrom])]
                  rfl
              · have hx := bytesOfRow_sound hb hcs
                have hl : cs.length = len := by rw [← VRs_length hcs, hlen]; simp
                have hlo := run_loadCells_list (P := P) s.w ⟨k, o, none⟩ cs (fun j v hv => by rw [Addr.add_lit]; exact hrd j v hv)
                rw [hl] at hlo
                rw [run_bytesToString s.w ⟨k, o, none⟩ len cap (l.map fun b => (b.toNat : Int)) (by rw [hlo, hx, List.map_map]; rfl), foldl_push]
                simp
          · cases h
        · cases h
      · cases h
    · cases h

end
end Go.TV
