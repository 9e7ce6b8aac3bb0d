import Derived.WalkKit
import Derived.KernelRfl
import Derived.Orders
namespace Go.Ev

/-! ### Values reckoned at once (for the kernel); each is the plain application -/
noncomputable def forceN {α : Type} (n : Nat) (k : Nat → α) : α := Nat.rec (motive := fun _ => α) (k 0) (fun p _ => k (Nat.succ p)) n
@[simp] theorem forceN_eq {α : Type} (n : Nat) (k : Nat → α) : forceN n k = k n := by cases n <;> rfl
noncomputable def forceI {α : Type} (i : Int) (k : Int → α) : α :=
  match i with
  | .ofNat n => forceN n fun n => k (.ofNat n)
  | .negSucc n => forceN n fun n => k (.negSucc n)
@[simp] theorem forceI_eq {α : Type} (n : Int) (k : Int → α) : forceI n k = k n := by cases n <;> simp [forceI]
def forceB {α : Type} (b : Bool) (k : Bool → α) : α :=
  match b with
  | true => k true
  | false => k false
@[simp] theorem forceB_eq {α : Type} (n : Bool) (k : Bool → α) : forceB n k = k n := by cases n <;> rfl
/-- an atom -/
noncomputable def forceA {α : Type} (v : Value) (k : Value → α) : α :=
  match v with
  | .int kd i => forceI i fun i => k (.int kd i)
  | .bool b => forceB b fun b => k (.bool b)
  | .pointer (some ⟨b, o, s⟩) => forceN b fun b => forceN o fun o => k (.pointer (some ⟨b, o, s⟩))
  | .slice (some ⟨b, o, s⟩) n c => forceN b fun b => forceN o fun o => forceN n fun n => forceN c fun c => k (.slice (some ⟨b, o, s⟩) n c)
  | .slice none n c => forceN n fun n => forceN c fun c => k (.slice none n c)
  | v => k v
@[simp] theorem forceA_eq {α : Type} (v : Value) (k : Value → α) : forceA v k = k v := by
  cases v <;> simp [forceA]
  · rename_i a; cases a <;> simp
  · rename_i a n c; cases a <;> simp
noncomputable def forceL {α : Type} (l : List Value) : (List Value → α) → α :=
  List.rec (motive := fun _ => (List Value → α) → α) (fun k => k []) (fun v _ ih k => forceA v fun v => ih fun r => k (v :: r)) l
@[simp] theorem forceL_eq {α : Type} (l : List Value) (k : List Value → α) : forceL l k = k l := by
  induction l generalizing k with
  | nil => rfl
  | cons v r ih => simp only [forceL, forceA_eq] at ih ⊢; exact ih _
noncomputable def forceV {α : Type} (v : Value) (k : Value → α) : α :=
  match v with
  | .agg ⟨l⟩ => forceL l fun l => k (.agg ⟨l⟩)
  | .tuple ⟨l⟩ => forceL l fun l => k (.tuple ⟨l⟩)
  | v => forceA v k
@[simp] theorem forceV_eq {α : Type} (v : Value) (k : Value → α) : forceV v k = k v := by
  cases v <;> simp [forceV]

/-! ### A trie of numbers -/
inductive T (α : Type) where
  | nil
  | node (v : Option α) (l r : T α)
def forceT {α β : Type} (t : T α) (k : T α → β) : β :=
  match t with
  | .nil => k .nil
  | .node v l r => k (.node v l r)
@[simp] theorem forceT_eq {α β : Type} (t : T α) (k : T α → β) : forceT t k = k t := by cases t <;> rfl
namespace T
variable {α : Type}
noncomputable def get (t : T α) : Nat → Option α :=
  T.rec (motive := fun _ => Nat → Option α) (fun _ => none)
    (fun v _ _ il ir n => cond (Nat.beq n 0) v (cond (Nat.beq (n % 2) 1) (forceN (n / 2) il) (forceN (n / 2 - 1) ir))) t
noncomputable def putF (x : Option α) (f : Nat) : T α → Nat → T α :=
  Nat.rec (motive := fun _ => T α → Nat → T α) (fun t _ => t)
    (fun _ ih t n => match t with
      | .nil => cond (Nat.beq n 0) (.node x .nil .nil) (cond (Nat.beq (n % 2) 1) (forceN (n / 2) fun m => forceT (ih .nil m) fun l => .node none l .nil) (forceN (n / 2 - 1) fun m => forceT (ih .nil m) fun r => .node none .nil r))
      | .node v l r => cond (Nat.beq n 0) (.node x l r) (cond (Nat.beq (n % 2) 1) (forceN (n / 2) fun m => forceT (ih l m) fun l => .node v l r) (forceN (n / 2 - 1) fun m => forceT (ih r m) fun r => .node v l r))) f
noncomputable def put (t : T α) (n : Nat) (x : Option α) : T α := putF x (n + 1) t n

theorem cond3 {β : Type} (n : Nat) (a b c : β) : cond (Nat.beq n 0) a (cond (Nat.beq (n % 2) 1) b c) = if n = 0 then a else if n % 2 = 1 then b else c := by
  have e1 : Nat.beq n 0 = decide (n = 0) := by rw [Bool.eq_iff_iff]; simp
  have e2 : Nat.beq (n % 2) 1 = decide (n % 2 = 1) := by rw [Bool.eq_iff_iff]; simp
  rw [e1, e2]
  by_cases h : n = 0
  · simp [h]
  · by_cases ho : n % 2 = 1 <;> simp [h, ho]
theorem get_nil (m : Nat) : (T.nil : T α).get m = none := rfl
theorem get_node (v : Option α) (l r : T α) (n : Nat) : (T.node v l r).get n = if n = 0 then v else if n % 2 = 1 then l.get (n / 2) else r.get (n / 2 - 1) := by
  show cond (Nat.beq n 0) v (cond (Nat.beq (n % 2) 1) (forceN (n / 2) l.get) (forceN (n / 2 - 1) r.get)) = _
  simp only [forceN_eq]
  exact cond3 n v _ _
theorem putF_zero (x : Option α) (t : T α) (n : Nat) : putF x 0 t n = t := rfl
theorem putF_nil (x : Option α) (f n : Nat) : putF x (f + 1) .nil n = if n = 0 then .node x .nil .nil else if n % 2 = 1 then .node none (putF x f .nil (n / 2)) .nil else .node none .nil (putF x f .nil (n / 2 - 1)) := by
  show cond (Nat.beq n 0) (T.node x .nil .nil) (cond (Nat.beq (n % 2) 1) (forceN (n / 2) fun m => forceT (putF x f .nil m) fun l => T.node none l .nil) (forceN (n / 2 - 1) fun m => forceT (putF x f .nil m) fun r => T.node none .nil r)) = _
  simp only [forceN_eq, forceT_eq]
  exact cond3 n _ _ _
theorem putF_node (x : Option α) (f n : Nat) (v : Option α) (l r : T α) : putF x (f + 1) (.node v l r) n = if n = 0 then .node x l r else if n % 2 = 1 then .node v (putF x f l (n / 2)) r else .node v l (putF x f r (n / 2 - 1)) := by
  show cond (Nat.beq n 0) (T.node x l r) (cond (Nat.beq (n % 2) 1) (forceN (n / 2) fun m => forceT (putF x f l m) fun l => T.node v l r) (forceN (n / 2 - 1) fun m => forceT (putF x f r m) fun r => T.node v l r)) = _
  simp only [forceN_eq, forceT_eq]
  exact cond3 n _ _ _

theorem get_putF (x : Option α) (f : Nat) : ∀ (t : T α) (n m : Nat), n < f → (putF x f t n).get m = if m = n then x else t.get m := by
  induction f with
  | zero => intro t n m h; omega
  | succ f ih =>
    intro t n m h
    cases t with
    | nil =>
      rw [putF_nil]
      by_cases hn : n = 0
      · subst hn
        rw [if_pos rfl, get_node]
        by_cases hm : m = 0
        · rw [if_pos hm, if_pos hm]
        · rw [if_neg hm, if_neg hm]; split <;> rfl
      · rw [if_neg hn]
        by_cases ho : n % 2 = 1
        · rw [if_pos ho, get_node]
          by_cases hm : m = 0
          · rw [if_pos hm, if_neg (by omega)]; rfl
          · rw [if_neg hm]
            by_cases hmo : m % 2 = 1
            · rw [if_pos hmo, ih _ _ _ (by omega)]
              by_cases e : m = n
              · subst e; simp
              · rw [if_neg e, if_neg (by omega)]; rfl
            · rw [if_neg hmo, if_neg (by omega : ¬ m = n)]; rfl
        · rw [if_neg ho, get_node]
          by_cases hm : m = 0
          · rw [if_pos hm, if_neg (by omega)]; rfl
          · rw [if_neg hm]
            by_cases hmo : m % 2 = 1
            · rw [if_pos hmo, if_neg (by omega : ¬ m = n)]; rfl
            · rw [if_neg hmo, ih _ _ _ (by omega)]
              by_cases e : m = n
              · subst e; simp
              · rw [if_neg e, if_neg (by omega)]; rfl
    | node v l r =>
      rw [putF_node]
      by_cases hn : n = 0
      · subst hn
        rw [if_pos rfl, get_node, get_node]
        by_cases hm : m = 0
        · rw [if_pos hm, if_pos hm]
        · rw [if_neg hm, if_neg hm, if_neg hm]
      · rw [if_neg hn]
        by_cases ho : n % 2 = 1
        · rw [if_pos ho, get_node, get_node]
          by_cases hm : m = 0
          · rw [if_pos hm, if_pos hm, if_neg (by omega)]
          · rw [if_neg hm, if_neg hm]
            by_cases hmo : m % 2 = 1
            · rw [if_pos hmo, if_pos hmo, ih _ _ _ (by omega)]
              by_cases e : m = n
              · subst e; simp
              · rw [if_neg e, if_neg (by omega)]
            · rw [if_neg hmo, if_neg hmo, if_neg (by omega : ¬ m = n)]
        · rw [if_neg ho, get_node, get_node]
          by_cases hm : m = 0
          · rw [if_pos hm, if_pos hm, if_neg (by omega)]
          · rw [if_neg hm, if_neg hm]
            by_cases hmo : m % 2 = 1
            · rw [if_pos hmo, if_pos hmo, if_neg (by omega : ¬ m = n)]
            · rw [if_neg hmo, if_neg hmo, ih _ _ _ (by omega)]
              by_cases e : m = n
              · subst e; simp
              · rw [if_neg e, if_neg (by omega)]
theorem get_put (t : T α) (n : Nat) (x : Option α) (m : Nat) : (t.put n x).get m = if m = n then x else t.get m := get_putF _ _ t n m (by omega)
end T
end Go.Ev
