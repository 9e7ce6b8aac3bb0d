import Derived.Test.YthdpmpfchmcklaaGreatDoorEvBef
namespace Go.Ev
open Go.RowKit

/-! ### A region that draws: any order does what the text's order does -/
def cut (σ : Sig) (n : Nat) : Sig := fun b => if b < n then σ b else none
theorem cut_some {σ : Sig} {n b : Nat} {m : BM} : cut σ n b = some m ↔ b < n ∧ σ b = some m := by
  unfold cut
  by_cases h : b < n
  · simp [h]
  · simp [h]
theorem cut_le (σ : Sig) (n : Nat) : (cut σ n).le σ := fun _ _ h => (cut_some.1 h).2
theorem cut_mono {σ τ : Sig} (h : σ.le τ) {n m : Nat} (hn : n ≤ m) : (cut σ n).le (cut τ m) := fun b x hx => cut_some.2 ⟨Nat.lt_of_lt_of_le (cut_some.1 hx).1 hn, h b x (cut_some.1 hx).2⟩

structure State where
  fr : Frm
  sup : Nat
  h : Heap
def stAt (tr : List SR) (fin : State) (i : Nat) : State :=
  match tr[i]? with
  | some s => ⟨s.fr, s.sup, s.h⟩
  | none => fin
theorem chain_zero : ∀ {tr : List SR} {a : Frm × Nat × Heap} {fin : State}, Chain tr a (fin.fr, fin.sup, fin.h) → stAt tr fin 0 = ⟨a.1, a.2.1, a.2.2⟩
  | [], a, fin, h => by
    have h' : a = (fin.fr, fin.sup, fin.h) := h
    subst h'; rfl
  | s :: r, a, fin, h => by
    obtain ⟨h1, _⟩ := h
    subst h1; rfl
theorem chain_next : ∀ {tr : List SR} {a : Frm × Nat × Heap} {fin : State}, Chain tr a (fin.fr, fin.sup, fin.h) → ∀ {i : Nat} {s : SR}, tr[i]? = some s → stAt tr fin (i + 1) = ⟨s.fr', s.sup', s.h'⟩
  | [], a, fin, h, i, s, hi => by simp at hi
  | t :: r, a, fin, h, 0, s, hi => by
    simp at hi; subst hi
    obtain ⟨_, h2⟩ := h
    have := chain_zero h2
    simpa [stAt] using this
  | t :: r, a, fin, h, i + 1, s, hi => by
    obtain ⟨_, h2⟩ := h
    have := chain_next h2 (i := i) (s := s) (by simpa using hi)
    simpa [stAt] using this
theorem steps_len {P : Program} {all : List Oper} {call : CallF} : ∀ {l : List Oper} {tr : List SR}, Steps' P all call l tr → tr.length = l.length
  | [], tr, h => by have h' : tr = [] := h; subst h'; rfl
  | o :: l, tr, h => by
    obtain ⟨s, r, rfl, _, h2⟩ := h
    simp [steps_len h2]
theorem steps_at {P : Program} {all : List Oper} {call : CallF} : ∀ {l : List Oper} {tr : List SR}, Steps' P all call l tr → ∀ {i : Nat} {o : Oper} {s : SR}, l[i]? = some o → tr[i]? = some s → StepOK P all call o s
  | [], tr, h, i, o, s, hi, _ => by simp at hi
  | o' :: l, tr, h, 0, o, s, hi, hs => by
    obtain ⟨s', r, rfl, h1, _⟩ := h
    simp at hi hs
    subst hi; subst hs; exact h1
  | o' :: l, tr, h, i + 1, o, s, hi, hs => by
    obtain ⟨s', r, rfl, _, h2⟩ := h
    exact steps_at h2 (by simpa using hi) (by simpa using hs)

/-- a trace of the text's order, and what is known of it -/
structure Tc (P : Program) (ops : Array Oper) (call : CallF) (tr : List SR) (fin : State) : Prop where
  good : GoodC P call
  len : tr.length = ops.size
  st : ∀ {i : Nat} {o : Oper} {s : SR}, ops[i]? = some o → tr[i]? = some s → StepOK P ops.toList call o s
  next : ∀ {i : Nat} {s : SR}, tr[i]? = some s → stAt tr fin (i + 1) = ⟨s.fr', s.sup', s.h'⟩
  hf0 : HF (stAt tr fin 0).h (stAt tr fin 0).sup
  gls : ∀ {i : Nat} {o : Oper}, ops[i]? = some o → o.op.operands.toList.all (glOK P) = true
  dr : drawOK ops = true
  rcs : recsOK (befL ops.toList []) ((tr.map (·.rc)).reverse) = true
def Tch (s : SR) (b : Nat) : Prop := b ∈ s.rc.wr ∨ (s.sup ≤ b ∧ b < s.sup')
section
variable {P : Program} {ops : Array Oper} {call : CallF} {tr : List SR} {fin : State}
theorem Tc.at_ (_c : Tc P ops call tr fin) {i : Nat} {s : SR} (h : tr[i]? = some s) : (stAt tr fin i) = ⟨s.fr, s.sup, s.h⟩ := by simp [stAt, h]
theorem Tc.oper (c : Tc P ops call tr fin) {i : Nat} {s : SR} (h : tr[i]? = some s) : ∃ o, ops[i]? = some o := by
  have hlt : i < tr.length := (List.getElem?_eq_some_iff.1 h).1
  rw [c.len] at hlt
  exact ⟨ops[i], Array.getElem?_eq_getElem hlt⟩
theorem Tc.sr (c : Tc P ops call tr fin) {i : Nat} (h : i < ops.size) : ∃ s, tr[i]? = some s := by
  rw [← c.len] at h
  exact ⟨tr[i], List.getElem?_eq_getElem h⟩
theorem Tc.hf (c : Tc P ops call tr fin) : ∀ i, i ≤ ops.size → HF (stAt tr fin i).h (stAt tr fin i).sup
  | 0, _ => c.hf0
  | i + 1, hi => by
    obtain ⟨s, hs⟩ := c.sr (i := i) (by omega)
    obtain ⟨o, ho⟩ := c.oper hs
    have h1 := c.hf i (by omega)
    rw [c.at_ hs] at h1
    rw [c.next hs]
    exact ((c.st ho hs).abs c.good h1).1.fresh h1
theorem Tc.abs (c : Tc P ops call tr fin) {i : Nat} {s : SR} (hs : tr[i]? = some s) : Abs s.sup s.h ⟨s.v, s.sup', s.h', s.rc.wr, s.rc.ft⟩ ∧ s.rc.lo = s.sup ∧ s.rc.hi = s.sup' := by
  obtain ⟨o, ho⟩ := c.oper hs
  have hlt : i < ops.size := (Array.getElem?_eq_some_iff.1 ho).1
  have h1 := c.hf i (by omega)
  rw [c.at_ hs] at h1
  exact (c.st ho hs).abs c.good h1
theorem Tc.hfs (c : Tc P ops call tr fin) {i : Nat} {s : SR} (hs : tr[i]? = some s) : HF s.h s.sup := by
  obtain ⟨o, ho⟩ := c.oper hs
  have hlt : i < ops.size := (Array.getElem?_eq_some_iff.1 ho).1
  have h1 := c.hf i (by omega)
  rwa [c.at_ hs] at h1
theorem Tc.mono (c : Tc P ops call tr fin) {i : Nat} : ∀ {j : Nat}, i ≤ j → j ≤ ops.size → (stAt tr fin i).sup ≤ (stAt tr fin j).sup
  | 0, h, _ => by have : i = 0 := by omega
                  subst this; exact Nat.le_refl _
  | j + 1, h, hj => by
    by_cases e : i = j + 1
    · subst e; exact Nat.le_refl _
    · obtain ⟨s, hs⟩ := c.sr (i := j) (by omega)
      have h1 := c.mono (i := i) (j := j) (by omega) (by omega)
      have h2 := (c.abs hs).1.le
      rw [c.at_ hs] at h1
      rw [c.next hs]
      exact Nat.le_trans h1 h2
theorem Tc.mono_s (c : Tc P ops call tr fin) {i j : Nat} {s t : SR} (hs : tr[i]? = some s) (ht : tr[j]? = some t) (h : i < j) : s.sup' ≤ t.sup := by
  have hj : j < tr.length := (List.getElem?_eq_some_iff.1 ht).1
  have := c.mono (i := i + 1) (j := j) (by omega) (by rw [← c.len]; omega)
  rw [c.next hs, c.at_ ht] at this
  exact this
/-- a block that no one touches meanwhile -/
theorem Tc.keepH (c : Tc P ops call tr fin) {b i : Nat} : ∀ {j : Nat}, i ≤ j → j ≤ ops.size → (∀ k s, tr[k]? = some s → i ≤ k → k < j → ¬ Tch s b) → (stAt tr fin j).h.get b = (stAt tr fin i).h.get b
  | 0, h, _, _ => by have : i = 0 := by omega
                     subst this; rfl
  | j + 1, h, hj, hk => by
    by_cases e : i = j + 1
    · subst e; rfl
    · obtain ⟨s, hs⟩ := c.sr (i := j) (by omega)
      have h1 := c.keepH (b := b) (i := i) (j := j) (by omega) (by omega) fun k t ht h1 h2 => hk k t ht h1 (by omega)
      have hn := hk j s hs (by omega) (by omega)
      rw [← h1, c.next hs, c.at_ hs]
      rcases Nat.lt_or_ge b s.sup with hb | hb
      · exact (c.abs hs).1.same b hb fun q => hn (.inl q)
      · have hb' : s.sup' ≤ b := by
          rcases Nat.lt_or_ge b s.sup' with q | q
          · exact absurd (.inr ⟨hb, q⟩) hn
          · exact q
        have e1 := c.hfs hs b hb
        have e2 := (c.abs hs).1.fresh (c.hfs hs) b hb'
        rw [e1]; exact e2
/-- a slot that no one sets meanwhile -/
theorem Tc.keepF (c : Tc P ops call tr fin) {t i : Nat} : ∀ {j : Nat}, i ≤ j → j ≤ ops.size → (∀ k o, ops[k]? = some o → i ≤ k → k < j → o.dst ≠ some t) → (stAt tr fin j).fr.s.get t = (stAt tr fin i).fr.s.get t
  | 0, h, _, _ => by have : i = 0 := by omega
                     subst this; rfl
  | j + 1, h, hj, hk => by
    by_cases e : i = j + 1
    · subst e; rfl
    · obtain ⟨s, hs⟩ := c.sr (i := j) (by omega)
      obtain ⟨o, ho⟩ := c.oper hs
      have h1 := c.keepF (t := t) (i := i) (j := j) (by omega) (by omega) fun k t ht h1 h2 => hk k t ht h1 (by omega)
      rw [← h1, c.next hs, c.at_ hs]
      have := (putX_some (c.st ho hs).put).2.2 t
      rw [if_neg (hk j o ho (by omega) (by omega))] at this
      exact this
theorem Tc.frn (c : Tc P ops call tr fin) : ∀ i, i ≤ ops.size → (stAt tr fin i).fr.n = (stAt tr fin 0).fr.n
  | 0, _ => rfl
  | i + 1, hi => by
    obtain ⟨s, hs⟩ := c.sr (i := i) (by omega)
    obtain ⟨o, ho⟩ := c.oper hs
    have h1 := c.frn i (by omega)
    rw [← h1, c.next hs, c.at_ hs]
    exact (putX_some (c.st ho hs).put).1

/-- what is known when the operations of L are done -/
structure Inv (P : Program) (ops : Array Oper) (tr : List SR) (fin : State) (base : Nat) (σ0 : Sig) (w0 : World) (L : Nat → Prop) (σ : Sig) (a : Act) (w : World) : Prop where
  closed : Closed ops.toList L
  n : (stAt tr fin 0).fr.n = a.tmps.size
  df : a.defers = []
  slot : ∀ t i, i ≤ ops.size → (∀ j o, ops[j]? = some o → o.dst = some t → (L j ↔ j < i)) → SlotR (cut σ (stAt tr fin i).sup) (stAt tr fin i).fr a t
  blk : ∀ b i, i ≤ ops.size → (∀ j s, tr[j]? = some s → Tch s b → (L j ↔ j < i)) → ∀ m k, σ b = some m → (stAt tr fin i).h.get b = some k → BR (cut σ (stAt tr fin i).sup) m k w
  inj : ∀ b1 b2 i1 i2, i1 ≤ ops.size → i2 ≤ ops.size → (∀ j s, tr[j]? = some s → Tch s b1 → (L j ↔ j < i1)) → (∀ j s, tr[j]? = some s → Tch s b2 → (L j ↔ j < i2)) → ∀ m1 m2 k1 k2, σ b1 = some m1 → σ b2 = some m2 →
    (stAt tr fin i1).h.get b1 = some k1 → (stAt tr fin i2).h.get b2 = some k2 → m1.blk = m2.blk → b1 = b2
  dom : ∀ b m, σ b = some m → b < (stAt tr fin 0).sup ∨ ∃ j s, tr[j]? = some s ∧ L j ∧ s.sup ≤ b ∧ b < s.sup'
  gl : Gl P (cut σ (stAt tr fin 0).sup)
  tran : Tr (fun b => (∃ s ∈ tr, b ∈ s.rc.wr ∧ b < base) ∨ base ≤ b) σ0 σ (stAt tr fin 0).sup fin.sup w0 w
end
theorem Tr.mix {S1 S2 : Nat → Prop} {σ σ1 σ2 : Sig} {s0 s2 : Nat} {w w1 w2 : World} (h : Tr S1 σ σ1 s0 s2 w w1) (k : Tr S2 σ1 σ2 s0 s2 w1 w2) :
    Tr (fun b => S1 b ∨ S2 b ∨ s0 ≤ b) σ σ2 s0 s2 w w2 := by
  refine ⟨Sig.le_trans h.le k.le, fun b m hb => ?_, ⟨k.fr.os.trans h.fr.os, k.fr.tape.trans h.fr.tape, k.fr.output.trans h.fr.output, Nat.le_trans h.fr.size k.fr.size, fun x hx hc => ?_⟩⟩
  · rcases k.new b m hb with h1 | ⟨a, c, d⟩
    · rcases h.new b m h1 with h0 | ⟨a, c, d⟩
      · exact .inl h0
      · exact .inr ⟨a, c, d.imp id fun ⟨b0, m0, e, f, g⟩ => ⟨b0, m0, e, .inl f, g⟩⟩
    · refine .inr ⟨a, c, ?_⟩
      rcases d with d | ⟨b0, m0, e, f, g⟩
      · exact .inl (Nat.le_trans h.fr.size d)
      · rcases h.new b0 m0 e with e0 | ⟨a', c', d'⟩
        · exact .inr ⟨b0, m0, e0, .inr (.inl f), g⟩
        · rcases d' with d' | ⟨b1, m1, e1, f1, g1⟩
          · exact .inl (by omega)
          · exact .inr ⟨b1, m1, e1, .inl f1, g1.trans g⟩
  · rw [k.fr.keep x (Nat.lt_of_lt_of_le hx h.fr.size) ?_, h.fr.keep x hx fun b m e f => hc b m e (.inl f)]
    intro b m e f
    rcases h.new b m e with e0 | ⟨a', c', d'⟩
    · exact hc b m e0 (.inr (.inl f))
    · rcases d' with d' | ⟨b1, m1, e1, f1, g1⟩
      · omega
      · have := hc b1 m1 e1 (.inl f1); omega
end Go.Ev
