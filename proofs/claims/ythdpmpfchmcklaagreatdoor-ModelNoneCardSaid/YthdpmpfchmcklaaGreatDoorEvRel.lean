import Derived.Test.YthdpmpfchmcklaaGreatDoorEvNum
import Derived.ArgAppend
import Derived.Lib.AppendStr
import Derived.Laws.IdiomCopy
import Derived.Laws.BytesArg
import Derived.Laws.MakeOwn
namespace Go.Ev
open Go.RowKit

/-! ### Values, and the real ones that they stand for -/
structure BM where
  blk : Nat
  sh : Nat
  asz : Nat
  esz : Nat
  ext : Nat
abbrev Sig := Nat → Option BM
def Sig.le (s t : Sig) : Prop := ∀ b m, s b = some m → t b = some m
theorem Sig.le_refl (s : Sig) : s.le s := fun _ _ h => h
theorem Sig.le_trans {a b c : Sig} (h : a.le b) (k : b.le c) : a.le c := fun x m hx => k x m (h x m hx)

def plain : Value → Bool
  | .bool _ | .int _ _ | .float _ _ | .string _ | .pointer none | .slice none _ _ | .map none | .chan none | .nilFunc | .nilIface => true
  | _ => false

inductive VR (σ : Sig) : Value → Value → Prop
  | plain {v : Value} (h : plain v = true) : VR σ v v
  | veiled {k : FloatKind} {a b : Nat} {v' : Value} (h : v'.oneCell' = true) : VR σ (.complex k a b) v'
  | ptr {b o : Nat} {m : BM} (h : σ b = some m) : VR σ (.pointer (some ⟨b, o, none⟩)) (.pointer (some ⟨m.blk, m.sh + o, none⟩))
  | slice {b o n c c' : Nat} {m : BM} (h : σ b = some m) (hn : n ≤ c) (hc : c' = c ∨ (o + c * m.esz = m.asz ∧ c' = c + m.ext)) : VR σ (.slice (some ⟨b, o, none⟩) n c) (.slice (some ⟨m.blk, m.sh + o, none⟩) n c')
  | slice0 {b o o' : Nat} {m : BM} (h : σ b = some m) : VR σ (.slice (some ⟨b, o, none⟩) 0 0) (.slice (some ⟨m.blk, o', none⟩) 0 0)
  | func {fn : Fn} {f f' c c' : Array Value} (hf : f.size = f'.size) (hfr : ∀ (i : Nat) (v v' : Value), f[i]? = some v → f'[i]? = some v' → VR σ v v')
      (hc : c.size = c'.size) (hcr : ∀ (i : Nat) (v v' : Value), c[i]? = some v → c'[i]? = some v' → VR σ v v') : VR σ (.func fn f c) (.func fn f' c')
  | iface {t : TypeId} {v v' : Value} (h : VR σ v v') : VR σ (.iface t v) (.iface t v')
  | agg {c c' : Array Value} (hc : c.size = c'.size) (hcr : ∀ (i : Nat) (v v' : Value), c[i]? = some v → c'[i]? = some v' → VR σ v v') : VR σ (.agg c) (.agg c')
  | tuple {c c' : Array Value} (hc : c.size = c'.size) (hcr : ∀ (i : Nat) (v v' : Value), c[i]? = some v → c'[i]? = some v' → VR σ v v') : VR σ (.tuple c) (.tuple c')

def AR (σ : Sig) (c c' : Array Value) : Prop := c.size = c'.size ∧ ∀ (i : Nat) (v v' : Value), c[i]? = some v → c'[i]? = some v' → VR σ v v'

theorem VR.mono {σ τ : Sig} (hs : σ.le τ) {v v' : Value} (h : VR σ v v') : VR τ v v' := by
  induction h with
  | plain h => exact .plain h
  | veiled h => exact .veiled h
  | ptr h => exact .ptr (hs _ _ h)
  | slice h hn hc => exact .slice (hs _ _ h) hn hc
  | slice0 h => exact .slice0 (hs _ _ h)
  | func hf _ hc _ ih1 ih2 => exact .func hf ih1 hc ih2
  | iface _ ih => exact .iface ih
  | agg hc _ ih => exact .agg hc ih
  | tuple hc _ ih => exact .tuple hc ih
theorem AR.mono {σ τ : Sig} (hs : σ.le τ) {c c' : Array Value} (h : AR σ c c') : AR τ c c' := ⟨h.1, fun i v v' a b => (h.2 i v v' a b).mono hs⟩
theorem AR.some_of {σ : Sig} {c c' : Array Value} (h : AR σ c c') {i : Nat} {v : Value} (hi : c[i]? = some v) : ∃ v', c'[i]? = some v' ∧ VR σ v v' := by
  have hlt : i < c.size := (Array.getElem?_eq_some_iff.1 hi).1
  have hlt' : i < c'.size := by rw [← h.1]; exact hlt
  exact ⟨c'[i], Array.getElem?_eq_getElem hlt', h.2 i v _ hi (Array.getElem?_eq_getElem hlt')⟩
theorem AR.none_of {σ : Sig} {c c' : Array Value} (h : AR σ c c') {i : Nat} (hi : c[i]? = none) : c'[i]? = none := by
  rw [Array.getElem?_eq_none_iff] at hi ⊢
  rw [← h.1]; exact hi
/-- the values of a list, one by one -/
def LR (σ : Sig) (c c' : List Value) : Prop := c.length = c'.length ∧ ∀ (i : Nat) (v v' : Value), c[i]? = some v → c'[i]? = some v' → VR σ v v'
theorem LR.nil {σ : Sig} : LR σ [] [] := ⟨rfl, fun i v v' h => by simp at h⟩
theorem LR.cons {σ : Sig} {v v' : Value} {c c' : List Value} (h : VR σ v v') (hr : LR σ c c') : LR σ (v :: c) (v' :: c') := by
  refine ⟨by simp [hr.1], fun i x x' hx hx' => ?_⟩
  cases i with
  | zero => simp at hx hx'; subst hx; subst hx'; exact h
  | succ i => simp at hx hx'; exact hr.2 i x x' hx hx'
theorem LR.mono {σ τ : Sig} (hs : σ.le τ) {c c' : List Value} (h : LR σ c c') : LR τ c c' := ⟨h.1, fun i v v' a b => (h.2 i v v' a b).mono hs⟩
theorem LR.head {σ : Sig} {v : Value} {c c' : List Value} (h : LR σ (v :: c) c') : ∃ v' d', c' = v' :: d' ∧ VR σ v v' ∧ LR σ c d' := by
  cases c' with
  | nil => have := h.1; simp at this
  | cons v' d' => exact ⟨v', d', rfl, h.2 0 v v' rfl rfl, by have := h.1; simpa using this, fun i x x' hx hx' => h.2 (i + 1) x x' (by simpa using hx) (by simpa using hx')⟩
theorem LR.append {σ : Sig} {a a' b b' : List Value} (h : LR σ a a') (k : LR σ b b') : LR σ (a ++ b) (a' ++ b') := by
  induction a generalizing a' with
  | nil =>
    have : a' = [] := List.eq_nil_of_length_eq_zero (by simpa using h.1.symm)
    subst this; simpa using k
  | cons v c ih =>
    obtain ⟨v', d', rfl, hv, hr⟩ := h.head
    exact (ih hr).cons hv
theorem LR.get {σ : Sig} {c c' : List Value} (h : LR σ c c') {i : Nat} {v : Value} (hi : c[i]? = some v) : ∃ v', c'[i]? = some v' ∧ VR σ v v' := by
  have hlt : i < c.length := (List.getElem?_eq_some_iff.1 hi).1
  have hlt' : i < c'.length := by rw [← h.1]; exact hlt
  exact ⟨c'[i], List.getElem?_eq_getElem hlt', h.2 i v _ hi (List.getElem?_eq_getElem hlt')⟩
theorem AR.toList {σ : Sig} {c c' : Array Value} (h : AR σ c c') : LR σ c.toList c'.toList := ⟨by simpa using h.1, fun i v v' a b => h.2 i v v' (by simpa using a) (by simpa using b)⟩
theorem LR.toArray {σ : Sig} {c c' : List Value} (h : LR σ c c') : AR σ c.toArray c'.toArray := ⟨by simpa using h.1, fun i v v' a b => h.2 i v v' (by simpa using a) (by simpa using b)⟩
theorem VR.of_agg {σ : Sig} {c : Array Value} {v' : Value} (h : VR σ (.agg c) v') : ∃ c', v' = .agg c' ∧ AR σ c c' := by
  cases h with
  | plain h => simp [Ev.plain] at h
  | agg hc hr => exact ⟨_, rfl, hc, hr⟩
theorem VR.of_tuple {σ : Sig} {c : Array Value} {v' : Value} (h : VR σ (.tuple c) v') : ∃ c', v' = .tuple c' ∧ AR σ c c' := by
  cases h with
  | plain h => simp [Ev.plain] at h
  | tuple hc hr => exact ⟨_, rfl, hc, hr⟩
theorem VR.of_plain {σ : Sig} {v v' : Value} (hp : Ev.plain v = true) (h : VR σ v v') : v' = v := by
  cases h <;> simp [Ev.plain] at hp <;> rfl
theorem VR.of_ptr {σ : Sig} {b o : Nat} {v' : Value} (h : VR σ (.pointer (some ⟨b, o, none⟩)) v') : ∃ m, σ b = some m ∧ v' = .pointer (some ⟨m.blk, m.sh + o, none⟩) := by
  cases h with
  | plain h => simp [Ev.plain] at h
  | ptr h => exact ⟨_, h, rfl⟩
theorem VR.of_func {σ : Sig} {fn : Fn} {f c : Array Value} {v' : Value} (h : VR σ (.func fn f c) v') : ∃ f' c', v' = .func fn f' c' ∧ AR σ f f' ∧ AR σ c c' := by
  cases h with
  | plain h => simp [Ev.plain] at h
  | func hf hfr hc hcr => exact ⟨_, _, rfl, ⟨hf, hfr⟩, ⟨hc, hcr⟩⟩
theorem VR.of_slice {σ : Sig} {b o n c : Nat} {v' : Value} (h : VR σ (.slice (some ⟨b, o, none⟩) n c) v') :
    ∃ m o' c', σ b = some m ∧ v' = .slice (some ⟨m.blk, o', none⟩) n c' ∧ n ≤ c ∧ c ≤ c' ∧
      ((o' = m.sh + o ∧ (c' = c ∨ (o + c * m.esz = m.asz ∧ c' = c + m.ext))) ∨ (n = 0 ∧ c = 0 ∧ c' = 0)) := by
  cases h with
  | plain h => simp [Ev.plain] at h
  | slice h hn hc => exact ⟨_, _, _, h, rfl, hn, by omega, .inl ⟨rfl, hc⟩⟩
  | slice0 h => exact ⟨_, _, _, h, rfl, by omega, by omega, .inr ⟨rfl, rfl, rfl⟩⟩
theorem VR.cells {σ : Sig} {v v' : Value} (h : VR σ v v') : AR σ v.cells v'.cells := by
  have one : ∀ {x x' : Value}, VR σ x x' → AR σ #[x] #[x'] := fun {x x'} hx => by
    have := (LR.cons hx LR.nil).toArray
    simpa using this
  cases h with
  | agg hc hr => exact ⟨hc, hr⟩
  | plain hp =>
    have e : v.cells = #[v] := by cases v <;> simp [Ev.plain] at hp <;> rfl
    rw [e]; exact one (.plain hp)
  | ptr h => exact one (.ptr h)
  | veiled h =>
    have e : v'.cells = #[v'] := by cases v' <;> simp [Value.oneCell'] at h <;> rfl
    rw [e]; exact one (.veiled h)
  | slice h hn hc => exact one (.slice h hn hc)
  | slice0 h => exact one (.slice0 h)
  | func a b c d => exact one (.func a b c d)
  | iface h => exact one (.iface h)
  | tuple a b => exact one (.tuple a b)
theorem VR.oneCell {σ : Sig} {v v' : Value} (h : VR σ v v') : v'.oneCell' = v.oneCell' := by
  cases h with
  | veiled h => rw [h]; rfl
  | _ => simp [Value.oneCell']

/-! ### The abstract heap -/
structure Blk where
  cs : T Value
  len : Nat
  elem : TypeId
  grown : Nat
abbrev Heap := T Blk

/-- Block k of the heap, as it lies in the world. -/
def BR (σ : Sig) (m : BM) (k : Blk) (w : World) : Prop :=
  ∃ (rs : Array Value) (fz : Nat × Nat), w.heap[m.blk]? = some (.cells rs k.elem fz) ∧ m.asz = k.len ∧ rs.size = m.sh + k.len + m.ext * m.esz ∧ (k.grown = 0 → m.ext = 0) ∧ (k.grown ≠ 0 → m.esz = k.grown) ∧
    (∀ i v, i < k.len → k.cs.get i = some v → ∃ v', rs[m.sh + i]? = some v' ∧ VR σ v v') ∧ (∀ i, i < rs.size → ¬ (fz.1 ≤ i ∧ i < fz.2))

structure HR (S : Nat → Prop) (σ : Sig) (h : Heap) (w : World) : Prop where
  blk : ∀ b m k, S b → σ b = some m → h.get b = some k → BR σ m k w
  inj : ∀ b1 b2 m1 m2 k1 k2, S b1 → S b2 → σ b1 = some m1 → σ b2 = some m2 → h.get b1 = some k1 → h.get b2 = some k2 → m1.blk = m2.blk → b1 = b2

/-- What may have changed: the blocks of S, and new ones. -/
structure Fr (S : Nat → Prop) (σ : Sig) (w w' : World) : Prop where
  os : w'.os = w.os
  tape : w'.tape = w.tape
  output : w'.output = w.output
  size : w.heap.size ≤ w'.heap.size
  keep : ∀ k, k < w.heap.size → (∀ b m, σ b = some m → S b → m.blk ≠ k) → w'.heap[k]? = w.heap[k]?

theorem Fr.refl (S : Nat → Prop) (σ : Sig) (w : World) : Fr S σ w w := ⟨rfl, rfl, rfl, Nat.le_refl _, fun _ _ _ => rfl⟩
theorem Fr.drew (S : Nat → Prop) (σ : Sig) (w : World) (n : Nat) : Fr S σ w { w with drawn := n } := ⟨rfl, rfl, rfl, Nat.le_refl _, fun _ _ _ => rfl⟩

theorem HR.sub {S S' : Nat → Prop} {σ : Sig} {h : Heap} {w : World} (k : HR S σ h w) (hs : ∀ b m, σ b = some m → S' b → S b) : HR S' σ h w :=
  ⟨fun b m x hb hm hx => k.blk b m x (hs b m hm hb) hm hx, fun b1 b2 m1 m2 k1 k2 s1 s2 e1 e2 g1 g2 he => k.inj b1 b2 m1 m2 k1 k2 (hs _ _ e1 s1) (hs _ _ e2 s2) e1 e2 g1 g2 he⟩

theorem BR.lt {σ : Sig} {m : BM} {k : Blk} {w : World} (h : BR σ m k w) : m.blk < w.heap.size := by
  obtain ⟨rs, fz, hb, _⟩ := h
  rcases Nat.lt_or_ge m.blk w.heap.size with hlt | hge
  · exact hlt
  · rw [Array.getElem?_eq_none hge] at hb; cases hb
theorem BR.mono {σ τ : Sig} (hs : σ.le τ) {m : BM} {k : Blk} {w : World} (h : BR σ m k w) : BR τ m k w := by
  obtain ⟨rs, fz, hb, ha, hr, hg, hg2, hc, hf⟩ := h
  exact ⟨rs, fz, hb, ha, hr, hg, hg2, fun i v hi hv => let ⟨v', a, b⟩ := hc i v hi hv; ⟨v', a, b.mono hs⟩, hf⟩
theorem BR.keep {σ : Sig} {m : BM} {k : Blk} {w w' : World} (h : BR σ m k w) (e : w'.heap[m.blk]? = w.heap[m.blk]?) : BR σ m k w' := by
  obtain ⟨rs, fz, hb, rest⟩ := h
  exact ⟨rs, fz, e.trans hb, rest⟩
/-- a cell, read -/
theorem BR.cell {σ : Sig} {m : BM} {k : Blk} {w : World} (h : BR σ m k w) {i : Nat} {v : Value} (hi : i < k.len) (hv : k.cs.get i = some v) :
    ∃ v', w.cell? ⟨m.blk, m.sh + i, none⟩ = some v' ∧ VR σ v v' := by
  obtain ⟨rs, fz, hb, ha, hr, hg, hg2, hc, hf⟩ := h
  obtain ⟨v', hv', hvr⟩ := hc i v hi hv
  exact ⟨v', by simp [World.cell?, hb, hv'], hvr⟩
theorem BR.there {σ : Sig} {m : BM} {k : Blk} {w : World} (h : BR σ m k w) {i : Nat} (hi : i < k.len + m.ext * m.esz) : (w.cell? ⟨m.blk, m.sh + i, none⟩).isSome = true ∧ w.frozen? ⟨m.blk, m.sh + i, none⟩ = false := by
  obtain ⟨rs, fz, hb, ha, hr, hg, hg2, hc, hf⟩ := h
  have hlt : m.sh + i < rs.size := by omega
  refine ⟨by simp [World.cell?, hb, Array.getElem?_eq_getElem hlt], ?_⟩
  have := hf (m.sh + i) hlt
  simp only [World.frozen?, hb]
  rw [Bool.eq_false_iff]
  intro he
  simp at he
  exact this he
end Go.Ev
