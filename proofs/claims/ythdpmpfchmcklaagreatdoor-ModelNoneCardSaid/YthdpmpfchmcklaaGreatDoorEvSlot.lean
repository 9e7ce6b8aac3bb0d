import Derived.Test.YthdpmpfchmcklaaGreatDoorEvOp9
namespace Go.Ev
open Go.RowKit

/-! ### Slots of a frame -/
theorem T.root_get {α : Type} (t : T α) : t.root = t.get 0 := by cases t <;> simp [T.root, T.get_nil, T.get_node]
theorem T.left_get {α : Type} (t : T α) (m : Nat) : t.left.get m = t.get (2 * m + 1) := by
  cases t with
  | nil => simp [T.left, T.get_nil]
  | node v l r => rw [T.get_node, if_neg (by omega), if_pos (by omega), show (2 * m + 1) / 2 = m by omega]; rfl
theorem T.right_get {α : Type} (t : T α) (m : Nat) : t.right.get m = t.get (2 * m + 2) := by
  cases t with
  | nil => simp [T.right, T.get_nil]
  | node v l r => rw [T.get_node, if_neg (by omega), if_neg (by omega), show (2 * m + 2) / 2 - 1 = m by omega]; rfl
theorem getF_succ (f n : Nat) : getF (f + 1) n = cond (Nat.beq n 0) (Bx.mk T.root) (cond (Nat.beq (n % 2) 1) (Bx.mk fun t => (getF f (n / 2)).f t.left) (Bx.mk fun t => (getF f (n / 2 - 1)).f t.right)) := by
  show cond (Nat.beq n 0) (Bx.mk T.root) (cond (Nat.beq (n % 2) 1) (match forceN (n / 2) (getF f) with | ⟨g⟩ => Bx.mk fun t => g t.left) (match forceN (n / 2 - 1) (getF f) with | ⟨g⟩ => Bx.mk fun t => g t.right)) = _
  simp only [forceN_eq]
theorem getF_eq : ∀ (f n : Nat) (t : T Value), n < f → (getF f n).f t = t.get n
  | 0, n, t, h => by omega
  | f + 1, n, t, h => by
    rw [getF_succ, T.cond3]
    by_cases h0 : n = 0
    · subst h0; rw [if_pos rfl]; exact T.root_get t
    · rw [if_neg h0]
      by_cases h1 : n % 2 = 1
      · rw [if_pos h1]
        simp only
        rw [getF_eq f (n / 2) t.left (by omega), T.left_get]; congr 1; omega
      · rw [if_neg h1]
        simp only
        rw [getF_eq f (n / 2 - 1) t.right (by omega), T.right_get]; congr 1; omega
theorem getBx_eq (n : Nat) (t : T Value) : (getBx n).f t = t.get n := getF_eq (n + 1) n t (by omega)
theorem T.setRoot_get {α : Type} (x : Option α) (t : T α) (m : Nat) : (t.setRoot x).get m = if m = 0 then x else t.get m := by
  cases t with
  | nil =>
    simp only [T.setRoot, T.get_node, T.get_nil]
    by_cases h : m = 0
    · simp [h]
    · simp [h]
  | node v l r =>
    simp only [T.setRoot, T.get_node]
    by_cases h : m = 0
    · simp [h]
    · simp [h]
theorem T.setLeft_get {α : Type} (g : T α → T α) (t : T α) (m : Nat) : (t.setLeft g).get m = if m % 2 = 1 then (g t.left).get (m / 2) else t.get m := by
  cases t with
  | nil =>
    simp only [T.setLeft, forceT_eq, T.get_node, T.left, T.get_nil]
    by_cases h : m = 0
    · simp [h]
    · by_cases h1 : m % 2 = 1 <;> simp [h, h1, T.get_nil]
  | node v l r =>
    simp only [T.setLeft, forceT_eq, T.get_node, T.left]
    by_cases h : m = 0
    · simp [h]
    · by_cases h1 : m % 2 = 1 <;> simp [h, h1]
theorem T.setRight_get {α : Type} (g : T α → T α) (t : T α) (m : Nat) : (t.setRight g).get m = if m ≠ 0 ∧ m % 2 ≠ 1 then (g t.right).get (m / 2 - 1) else t.get m := by
  cases t with
  | nil =>
    simp only [T.setRight, forceT_eq, T.get_node, T.right, T.get_nil]
    by_cases h : m = 0
    · simp [h]
    · by_cases h1 : m % 2 = 1 <;> simp [h, h1, T.get_nil]
  | node v l r =>
    simp only [T.setRight, forceT_eq, T.get_node, T.right]
    by_cases h : m = 0
    · simp [h]
    · by_cases h1 : m % 2 = 1 <;> simp [h, h1]
theorem setF_succ (f n : Nat) : setF (f + 1) n = cond (Nat.beq n 0) (Bx.mk T.setRoot) (cond (Nat.beq (n % 2) 1) (Bx.mk fun x => T.setLeft ((setF f (n / 2)).f x)) (Bx.mk fun x => T.setRight ((setF f (n / 2 - 1)).f x))) := by
  show cond (Nat.beq n 0) (Bx.mk T.setRoot) (cond (Nat.beq (n % 2) 1) (match forceN (n / 2) (setF f) with | ⟨g⟩ => Bx.mk fun x => T.setLeft (g x)) (match forceN (n / 2 - 1) (setF f) with | ⟨g⟩ => Bx.mk fun x => T.setRight (g x))) = _
  simp only [forceN_eq]
theorem setF_eq : ∀ (f n : Nat) (x : Option Value) (t : T Value) (m : Nat), n < f → ((setF f n).f x t).get m = if m = n then x else t.get m
  | 0, n, x, t, m, h => by omega
  | f + 1, n, x, t, m, h => by
    rw [setF_succ, T.cond3]
    by_cases h0 : n = 0
    · subst h0; rw [if_pos rfl]; exact T.setRoot_get x t m
    · rw [if_neg h0]
      by_cases h1 : n % 2 = 1
      · rw [if_pos h1]
        simp only
        rw [T.setLeft_get]
        by_cases hm : m % 2 = 1
        · rw [if_pos hm, setF_eq f (n / 2) x t.left (m / 2) (by omega)]
          by_cases e : m = n
          · rw [if_pos (by omega), if_pos e]
          · rw [if_neg (by omega), if_neg e, T.left_get]; congr 1; omega
        · rw [if_neg hm, if_neg (by omega)]
      · rw [if_neg h1]
        simp only
        rw [T.setRight_get]
        by_cases hm : m ≠ 0 ∧ m % 2 ≠ 1
        · rw [if_pos hm, setF_eq f (n / 2 - 1) x t.right (m / 2 - 1) (by omega)]
          by_cases e : m = n
          · rw [if_pos (by omega), if_pos e]
          · rw [if_neg (by omega), if_neg e, T.right_get]; congr 1; omega
        · rw [if_neg hm, if_neg (by omega)]
theorem setBx_eq (n : Nat) (x : Option Value) (t : T Value) (m : Nat) : ((setBx n).f x t).get m = if m = n then x else t.get m := setF_eq (n + 1) n x t m (by omega)

/-- one slot, and the real one -/
def SlotR (σ : Sig) (fr : Frm) (a : Act) (t : Nat) : Prop := ∀ v, fr.s.get t = some v → ∃ v', a.tmps[t]? = some v' ∧ VR σ v v'
/-- the frame -/
structure FR (σ : Sig) (fr : Frm) (a : Act) : Prop where
  n : fr.n = a.tmps.size
  s : ∀ t, SlotR σ fr a t
theorem SlotR.mono {σ τ : Sig} (hs : σ.le τ) {fr : Frm} {a : Act} {t : Nat} (h : SlotR σ fr a t) : SlotR τ fr a t := fun v hv => let ⟨v', a1, a2⟩ := h v hv; ⟨v', a1, a2.mono hs⟩
theorem FR.mono {σ τ : Sig} (hs : σ.le τ) {fr : Frm} {a : Act} (h : FR σ fr a) : FR τ fr a := ⟨h.n, fun t => (h.s t).mono hs⟩
theorem constOK_vr {σ : Sig} {v : Value} (h : constOK v = true) : VR σ v v := by
  unfold constOK at h
  split at h
  · rename_i cs
    refine .agg rfl fun i v v' h1 h2 => ?_
    rw [h1] at h2; cases h2
    exact .plain (List.all_eq_true.1 h v (by
      have := Array.mem_of_getElem? h1
      simpa using this))
  · exact .plain h
theorem evS_of {P : Program} {σ : Sig} {fr : Frm} {a : Act} {x : Operand} (hg : Gl P σ) (hx : glOK P x = true) (ht : ∀ t, x = .tmp t → SlotR σ fr a t) : EvS σ fr a x := by
  intro v hv
  cases x with
  | tmp t =>
    have hv' : (getBx t).f fr.s = some v := hv
    rw [getBx_eq] at hv'
    obtain ⟨v', h1, h2⟩ := ht t rfl v hv'
    simpa [Act.eval, h1] using h2
  | const c =>
    cases hc : constOK c with
    | true =>
      have : (evX (.const c)).f fr = some c := by simp [evX, hc]
      rw [this] at hv; cases hv
      exact constOK_vr hc
    | false =>
      have : (evX (.const c)).f fr = none := by simp [evX, hc]
      rw [this] at hv; cases hv
  | global g =>
    have : v = .pointer (some ⟨g, 0, none⟩) := by
      have h' : some (Value.pointer (some ⟨g, 0, none⟩)) = some v := hv
      cases h'; rfl
    subst this
    obtain ⟨m, h1, h2, h3⟩ := hg g (by simpa [glOK] using hx)
    have := VR.ptr (o := 0) h1
    rw [h2, h3] at this
    exact this
  | func f =>
    have : v = .func (.func f) #[] #[] := by
      have h' : some (Value.func (.func f) #[] #[]) = some v := hv
      cases h'; rfl
    subst this
    exact .func rfl (fun i v v' h => by simp at h) rfl (fun i v v' h => by simp at h)

/-- a frame after a value was put -/
theorem putX_some {d : Option Tmp} {fr fr' : Frm} {v : Value} (h : (putX d).f fr v = some fr') : fr'.n = fr.n ∧ (∀ t, d = some t → t < fr.n) ∧ ∀ t, fr'.s.get t = if d = some t then some v else fr.s.get t := by
  cases d with
  | none =>
    have h' : some fr = some fr' := h
    cases h'
    exact ⟨rfl, by simp, fun t => by simp⟩
  | some d =>
    obtain ⟨n, s⟩ := fr
    have h' : cond (Nat.blt d n) (forceT ((setBx d).f (some v) s) fun s => some ⟨n, s⟩) none = some fr' := h
    obtain ⟨h1, h2⟩ := cond_some h'
    rw [forceT_eq] at h2
    cases h2
    refine ⟨rfl, fun t ht => by cases ht; simpa using h1, fun t => ?_⟩
    simp only [setBx_eq]
    by_cases e : t = d
    · subst e; simp
    · simp [e, Ne.symm e]
theorem put_tmps (a : Act) (d : Option Tmp) (v : Value) (t : Nat) : (a.put d v).tmps.size = a.tmps.size ∧ (a.put d v).defers = a.defers ∧ (a.put d v).tmps[t]? = if d = some t ∧ t < a.tmps.size then some v else a.tmps[t]? := by
  cases d with
  | none => simp [Act.put]
  | some d =>
    refine ⟨by simp [Act.put], rfl, ?_⟩
    simp only [Act.put, Array.getElem?_setIfInBounds]
    by_cases e : d = t
    · subst e
      by_cases hl : d < a.tmps.size
      · simp [hl]
      · simp [hl]
    · simp [e]
theorem slot_put {σ : Sig} {d : Option Tmp} {fr fr' : Frm} {a : Act} {v v' : Value} (h : (putX d).f fr v = some fr') (hn : fr.n = a.tmps.size) (hv : VR σ v v') (t : Nat) (ht : d ≠ some t → SlotR σ fr a t) : SlotR σ fr' (a.put d v') t := by
  obtain ⟨h1, h2, h3⟩ := putX_some h
  intro u hu
  rw [h3] at hu
  obtain ⟨_, _, p⟩ := put_tmps a d v' t
  by_cases e : d = some t
  · rw [if_pos e] at hu; cases hu
    rw [p, if_pos ⟨e, by rw [← hn]; exact h2 t e⟩]
    exact ⟨v', rfl, hv⟩
  · rw [if_neg e] at hu
    rw [p, if_neg (fun q => e q.1)]
    exact ht e u hu
theorem FR.put {σ : Sig} {d : Option Tmp} {fr fr' : Frm} {a : Act} {v v' : Value} (k : FR σ fr a) (h : (putX d).f fr v = some fr') (hv : VR σ v v') : FR σ fr' (a.put d v') :=
  ⟨by rw [(putX_some h).1, k.n, (put_tmps a d v' 0).1], fun t => slot_put h k.n hv t fun _ => k.s t⟩
end Go.Ev
