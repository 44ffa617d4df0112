import Derived.Orders
import Derived.Below
import Derived.Laws.AppendOwn
import Derived.Laws.NewBlocks
set_option linter.unusedSimpArgs false
set_option linter.unusedVariables false
namespace Go.TV
open Go.RowKit

/-- A value as a tree, and references into the store of a group of frames. -/
inductive V where
  | sc (v : Value)
  | nil
  | junk
  | agg (vs : List V)
  | tup (vs : List V)
  | clo (f : FuncId) (cs : List V)
  | tp (row : List V) (off : Nat)
  | ts (row : List V) (len : Nat)
  | rp (b off : Nat)
  | rs (b off len : Nat)
  deriving Inhabited

def atom : Value → Bool
  | .bool _ | .int _ _ | .string _ | .pointer none | .nilFunc => true
  | _ => false

/-- Where a block of the store lies: the machine's block, the first cell, how many cells from there on are its own, cells an element. -/
structure Loc where
  k : Nat
  o : Nat
  c : Nat
  st : Nat

structure Blk where
  cells : List V
  st : Nat
  wr : Bool

abbrev Store := Nat → Option Blk

structure Sit where
  Z : Nat → Nat → Prop
  β : Nat → Option Loc
  w : World

/-- The situation without a store: a tree holds no references. -/
def Sit.nb (s : Sit) : Sit := { s with β := fun _ => none }

mutual
def VR (s : Sit) : V → Value → Prop
  | .sc u, x => x = u ∧ atom u = true
  | .nil, x => ∃ a, x = .slice a 0 0
  | .junk, _ => True
  | .agg vs, x => ∃ xs, x = .agg xs ∧ VRs s vs xs.toList
  | .tup vs, x => ∃ xs, x = .tuple xs ∧ VRs s vs xs.toList
  | .clo f cs, x => ∃ xs, x = .func (.func f) #[] xs ∧ VRs s cs xs.toList
  | .tp row off, x => ∃ k o, x = .pointer (some ⟨k, o + off, none⟩) ∧ VRow s.nb row k o
  | .ts row len, x => ∃ a cap, x = .slice a len cap ∧ len ≤ cap ∧ (row = [] ∨ ∃ k o, a = some ⟨k, o, none⟩ ∧ VRow s.nb row k o)
  | .rp b off, x => ∃ l, s.β b = some l ∧ x = .pointer (some ⟨l.k, l.o + off, none⟩)
  | .rs b off len, x => ∃ l cap, s.β b = some l ∧ x = .slice (some ⟨l.k, l.o + off, none⟩) len cap ∧ len ≤ cap ∧ off + cap * l.st = l.c
def VRs (s : Sit) : List V → List Value → Prop
  | [], xs => xs = []
  | v :: vs, xs => ∃ y ys, xs = y :: ys ∧ VR s v y ∧ VRs s vs ys
def VRow (s : Sit) : List V → Nat → Nat → Prop
  | [], _, _ => True
  | v :: vs, k, o => s.Z k o ∧ (∃ c, s.w.cell? ⟨k, o, none⟩ = some c ∧ VR s v c) ∧ VRow s vs k (o + 1)
end

/-- What keeps trees and references readable. -/
structure Le (s s' : Sit) : Prop where
  zz : ∀ k o, s.Z k o → s'.Z k o
  kz : ∀ k o, s.Z k o → s'.w.cell? ⟨k, o, none⟩ = s.w.cell? ⟨k, o, none⟩
  bb : ∀ b l, s.β b = some l → s'.β b = some l

theorem Le.refl (s : Sit) : Le s s := ⟨fun _ _ h => h, fun _ _ _ => rfl, fun _ _ h => h⟩
theorem Le.trans {a b c : Sit} (h : Le a b) (h' : Le b c) : Le a c :=
  ⟨fun k o z => h'.zz k o (h.zz k o z), fun k o z => (h'.kz k o (h.zz k o z)).trans (h.kz k o z), fun b l e => h'.bb b l (h.bb b l e)⟩

theorem Le.nb {s s' : Sit} (h : Le s s') : Le s.nb s'.nb := ⟨h.zz, h.kz, fun _ _ e => by cases e⟩
theorem Le.of_nb (s : Sit) : Le s.nb s := ⟨fun _ _ z => z, fun _ _ _ => rfl, fun _ _ e => by cases e⟩

mutual
theorem VR_mono {s s' : Sit} (h : Le s s') : ∀ (v : V) (x : Value), VR s v x → VR s' v x
  | .sc u, x, hv => by unfold VR at *; exact hv
  | .nil, x, hv => by unfold VR at *; exact hv
  | .junk, x, hv => by unfold VR; trivial
  | .agg vs, x, hv => by unfold VR at *; obtain ⟨xs, e, h1⟩ := hv; exact ⟨xs, e, VRs_mono h vs _ h1⟩
  | .tup vs, x, hv => by unfold VR at *; obtain ⟨xs, e, h1⟩ := hv; exact ⟨xs, e, VRs_mono h vs _ h1⟩
  | .clo f vs, x, hv => by unfold VR at *; obtain ⟨xs, e, h1⟩ := hv; exact ⟨xs, e, VRs_mono h vs _ h1⟩
  | .tp row off, x, hv => by unfold VR at *; obtain ⟨k, o, e, h1⟩ := hv; exact ⟨k, o, e, VRow_mono h.nb row k o h1⟩
  | .ts row len, x, hv => by
    unfold VR at *
    obtain ⟨a, cap, e, hc, h1⟩ := hv
    refine ⟨a, cap, e, hc, h1.imp id ?_⟩
    rintro ⟨k, o, e, h1⟩
    exact ⟨k, o, e, VRow_mono h.nb row k o h1⟩
  | .rp b off, x, hv => by unfold VR at *; obtain ⟨l, e, h1⟩ := hv; exact ⟨l, h.bb _ _ e, h1⟩
  | .rs b off len, x, hv => by unfold VR at *; obtain ⟨l, cap, e, h1⟩ := hv; exact ⟨l, cap, h.bb _ _ e, h1⟩
theorem VRs_mono {s s' : Sit} (h : Le s s') : ∀ (vs : List V) (xs : List Value), VRs s vs xs → VRs s' vs xs
  | [], xs, hv => by unfold VRs at *; exact hv
  | v :: vs, xs, hv => by
    unfold VRs at *
    obtain ⟨y, ys, e, h1, h2⟩ := hv
    exact ⟨y, ys, e, VR_mono h v y h1, VRs_mono h vs ys h2⟩
theorem VRow_mono {s s' : Sit} (h : Le s s') : ∀ (vs : List V) (k o : Nat), VRow s vs k o → VRow s' vs k o
  | [], k, o, hv => by unfold VRow; trivial
  | v :: vs, k, o, hv => by
    unfold VRow at *
    obtain ⟨hz, ⟨c, hc, h1⟩, h2⟩ := hv
    exact ⟨h.zz k o hz, ⟨c, (h.kz k o hz).trans hc, VR_mono h v c h1⟩, VRow_mono h vs k (o + 1) h2⟩
end

/-- The store's blocks lie in the machine's heap, each for itself. -/
structure Inv (s : Sit) (σ : Store) : Prop where
  blk : ∀ b B, σ b = some B → ∃ l c e, s.β b = some l ∧ s.w.heap[l.k]? = some (.cells c e (0, 0)) ∧ l.o + l.c ≤ c.size ∧ B.cells.length ≤ l.c ∧ l.st = B.st ∧
    (∀ (i : Nat) (v : V), B.cells[i]? = some v → ∃ x, c[l.o + i]? = some x ∧ VR s v x) ∧ (∀ o, s.Z l.k o → B.wr = false ∧ o < l.o + B.cells.length)
  dis : ∀ b b' B B' l l', σ b = some B → σ b' = some B' → s.β b = some l → s.β b' = some l' → l.k = l'.k → b = b'
  zb : ∀ k o, s.Z k o → k < s.w.heap.size

/-- One step, or many: what may have changed. -/
structure Nxt (s : Sit) (σ : Store) (s' : Sit) (σ' : Store) : Prop where
  le : Le s s'
  zn : ∀ k o, s'.Z k o → s.Z k o ∨ s.w.heap.size ≤ k ∨ ∃ b B l, σ b = some B ∧ s.β b = some l ∧ l.k = k
  kb : ∀ k, k < s.w.heap.size → (∀ b B l, σ b = some B → s.β b = some l → l.k ≠ k) → s'.w.heap[k]? = s.w.heap[k]?
  nb : ∀ b B l, σ' b = some B → s'.β b = some l → s.w.heap.size ≤ l.k ∨ ∃ b0 B0 l0, σ b0 = some B0 ∧ s.β b0 = some l0 ∧ l0.k = l.k
  hs : s.w.heap.size ≤ s'.w.heap.size
  os : s'.w.os = s.w.os
  tape : s'.w.tape = s.w.tape
  output : s'.w.output = s.w.output

theorem Nxt.refl (s : Sit) (σ : Store) : Nxt s σ s σ :=
  ⟨.refl s, fun _ _ h => .inl h, fun _ _ _ => rfl, fun b B l h h' => .inr ⟨b, B, l, h, h', rfl⟩, Nat.le_refl _, rfl, rfl, rfl⟩

theorem Nxt.trans {a b c : Sit} {σ τ υ : Store} (h : Nxt a σ b τ) (h' : Nxt b τ c υ) : Nxt a σ c υ := by
  refine ⟨h.le.trans h'.le, fun k o hz => ?_, fun k hk hn => ?_, fun i B l hi hl => ?_, Nat.le_trans h.hs h'.hs, h'.os.trans h.os, h'.tape.trans h.tape, h'.output.trans h.output⟩
  · rcases h'.zn k o hz with h1 | h1 | ⟨i, B, l, h1, h2, h3⟩
    · exact h.zn k o h1
    · exact .inr (.inl (Nat.le_trans h.hs h1))
    · subst h3
      rcases h.nb i B l h1 h2 with h4 | h4
      · exact .inr (.inl h4)
      · exact .inr (.inr h4)
  · refine (h'.kb k (Nat.lt_of_lt_of_le hk h.hs) fun i B l hi hl e => ?_).trans (h.kb k hk hn)
    rcases h.nb i B l hi hl with h1 | ⟨b0, B0, l0, h1, h2, h3⟩
    · omega
    · exact hn b0 B0 l0 h1 h2 (h3.trans e)
  · rcases h'.nb i B l hi hl with h1 | ⟨b0, B0, l0, h1, h2, h3⟩
    · exact .inl (Nat.le_trans h.hs h1)
    · rw [← h3]
      exact h.nb b0 B0 l0 h1 h2

/-- With an empty store nothing that was there has changed. -/
theorem Nxt.below {s s' : Sit} {σ' : Store} (h : Nxt s (fun _ => none) s' σ') : Below s.w.heap.size s.w s'.w :=
  ⟨h.os, h.tape, h.output, h.hs, fun k hk => h.kb k hk (fun b B l hb => by cases hb)⟩

end Go.TV
