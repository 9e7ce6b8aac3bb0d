import Derived.Test.YthdpmpfchmcklaaGreatDoorEvLine
namespace Go.Ev
open Go.RowKit

/-! ### What stands ahead of what in every order -/
theorem testBit_lor3 (s a b i : Nat) : Nat.testBit (Nat.lor (Nat.lor s a) b) i = ((Nat.testBit s i || Nat.testBit a i) || Nat.testBit b i) := by
  have h1 : Nat.lor (Nat.lor s a) b = (s ||| a) ||| b := rfl
  rw [h1, Nat.testBit_or, Nat.testBit_or]
theorem befOf_bit (acc : List Nat) : ∀ (l : List Edge) (s i : Nat), Nat.testBit (befOf acc l s) i = true → Nat.testBit s i = true ∨ ∃ e ∈ l, Region.binds .any e = true ∧ (e.on = i ∨ Nat.testBit (acc.getD e.on 0) i = true)
  | [], s, i, h => .inl h
  | e :: r, s, i, h => by
    rw [befOf] at h
    rcases befOf_bit acc r _ i h with h1 | ⟨e', he, h1⟩
    · cases hb : Region.binds .any e with
      | false => rw [hb] at h1; exact .inl h1
      | true =>
        rw [hb] at h1
        simp only [cond_true] at h1
        rw [testBit_lor3, Bool.or_eq_true, Bool.or_eq_true] at h1
        rcases h1 with (h1 | h1) | h1
        · exact .inl h1
        · right
          refine ⟨e, by simp, hb, .inl ?_⟩
          rw [Nat.testBit_two_pow] at h1
          simpa using h1
        · exact .inr ⟨e, by simp, hb, .inr h1⟩
    · exact .inr ⟨e', by simp [he], h1⟩
/-- each bit has its reason -/
def BefInv (ops : List Oper) (B : List Nat) : Prop := ∀ j i, Nat.testBit (B.getD j 0) i = true → ∃ o e, ops[j]? = some o ∧ e ∈ o.after.toList ∧ Region.binds .any e = true ∧ (e.on = i ∨ Nat.testBit (B.getD e.on 0) i = true)
theorem getD_zero_bit {B : List Nat} {j i : Nat} (h : Nat.testBit (B.getD j 0) i = true) : j < B.length := by
  rcases Nat.lt_or_ge j B.length with h1 | h1
  · exact h1
  · rw [List.getD_eq_getElem?_getD, List.getElem?_eq_none h1] at h
    simp at h
theorem getD_append_left {B : List Nat} {x j : Nat} (h : j < B.length) : (B ++ [x]).getD j 0 = B.getD j 0 := by
  rw [List.getD_eq_getElem?_getD, List.getD_eq_getElem?_getD, List.getElem?_append_left h]
theorem befL_inv (ops : List Oper) : ∀ (l : List Oper) (acc : List Nat), (∀ i, l[i]? = ops[acc.length + i]?) → BefInv ops acc → BefInv ops (befL l acc)
  | [], acc, _, h => h
  | o :: r, acc, hl, h => by
    rw [befL]
    refine befL_inv ops r _ (fun i => ?_) ?_
    · have := hl (i + 1)
      rw [List.length_append, List.length_singleton, Nat.add_assoc, Nat.add_comm 1 i]
      simpa using this
    · intro j i hb
      rcases Nat.lt_trichotomy j acc.length with hj | hj | hj
      · rw [getD_append_left hj] at hb
        obtain ⟨o', e, h1, h2, h3, h4⟩ := h j i hb
        refine ⟨o', e, h1, h2, h3, h4.imp id fun q => ?_⟩
        rw [getD_append_left (getD_zero_bit q)]; exact q
      · subst hj
        have hx : (acc ++ [befOf acc o.after.toList 0]).getD acc.length 0 = befOf acc o.after.toList 0 := by
          rw [List.getD_eq_getElem?_getD]; simp
        rw [hx] at hb
        rcases befOf_bit acc _ 0 i hb with h1 | ⟨e, he, hbi, h1⟩
        · simp at h1
        · refine ⟨o, e, by have := hl 0; simpa using this.symm, he, hbi, h1.imp id fun q => ?_⟩
          rw [getD_append_left (getD_zero_bit q)]; exact q
      · have : j < (acc ++ [befOf acc o.after.toList 0]).length := getD_zero_bit hb
        simp at this
        omega
theorem bef_inv (ops : List Oper) : BefInv ops (befL ops []) := befL_inv ops ops [] (fun i => by simp) fun j i h => by simp at h

/-- edges lead back -/
def Back (ops : List Oper) : Prop := ∀ (i : Nat) (o : Oper), ops[i]? = some o → ∀ e ∈ o.after.toList, Region.binds .any e = true → e.on < i
def Closed (ops : List Oper) (L : Nat → Prop) : Prop := ∀ (j : Nat) (o : Oper), ops[j]? = some o → L j → ∀ e ∈ o.after.toList, Region.binds .any e = true → L e.on
theorem bef_in {ops : List Oper} {L : Nat → Prop} (hb : Back ops) (hc : Closed ops L) : ∀ (n j i : Nat), j < n → (∀ o, ops[j]? = some o → ∀ e ∈ o.after.toList, Region.binds .any e = true → L e.on) → Nat.testBit ((befL ops []).getD j 0) i = true → L i
  | 0, j, i, h, _, _ => by omega
  | n + 1, j, i, h, hd, ht => by
    obtain ⟨o, e, h1, h2, h3, h4⟩ := bef_inv ops j i ht
    have hl := hd o h1 e h2 h3
    rcases h4 with rfl | h4
    · exact hl
    · exact bef_in hb hc n e.on i (by have := hb j o h1 e h2 h3; omega) (fun o' ho' => hc e.on o' ho' hl) h4
theorem ordB_spec {ops : List Oper} {L : Nat → Prop} (hb : Back ops) (hc : Closed ops L) {i0 : Nat} (hready : ∀ o, ops[i0]? = some o → ∀ e ∈ o.after.toList, Region.binds .any e = true → L e.on) (hi0 : ¬ L i0) {j : Nat} (hne : j ≠ i0)
    (ho : ordB (befL ops []) i0 j = true ∨ ordB (befL ops []) j i0 = true) : L j ↔ j < i0 := by
  have key : (j < i0 ∧ Nat.testBit ((befL ops []).getD i0 0) j = true) ∨ (i0 < j ∧ Nat.testBit ((befL ops []).getD j 0) i0 = true) := by
    unfold ordB at ho
    rcases Nat.lt_or_ge j i0 with h1 | h1
    · left
      refine ⟨h1, ?_⟩
      rw [show Nat.ble j i0 = true by simp; omega, show Nat.ble i0 j = false by rw [Bool.eq_false_iff]; simp; omega] at ho
      rcases ho with h | h <;> exact h
    · right
      refine ⟨by omega, ?_⟩
      rw [show Nat.ble i0 j = true by simp; omega, show Nat.ble j i0 = false by rw [Bool.eq_false_iff]; simp; omega] at ho
      rcases ho with h | h <;> exact h
  rcases key with ⟨h1, h2⟩ | ⟨h1, h2⟩
  · exact ⟨fun _ => h1, fun _ => bef_in hb hc (i0 + 1) i0 j (by omega) hready h2⟩
  · refine ⟨fun hl => absurd ?_ hi0, fun h3 => by omega⟩
    exact bef_in hb hc (j + 1) j i0 (by omega) (fun o ho => hc j o ho hl) h2

/-! ### What the static test says -/
theorem zipIdx_all {α : Type} {l : List α} {p : α → Nat → Bool} (h : (l.zipIdx.all fun x => p x.1 x.2) = true) {i : Nat} {x : α} (hi : l[i]? = some x) : p x i = true := by
  rw [List.all_eq_true] at h
  refine h (x, i) ?_
  rw [List.mem_iff_getElem?]
  exact ⟨i, by simp [List.getElem?_zipIdx, hi]⟩
theorem drawOK_back {ops : Array Oper} (h : drawOK ops = true) : Back ops.toList := by
  intro i o hi e he hb
  unfold drawOK at h
  have := zipIdx_all (p := fun x i => x.after.toList.all (fun e => !(Region.binds .any e) || Nat.blt e.on i) && ops.toList.zipIdx.all fun y => Nat.ble y.2 i || ordB (befL ops.toList []) i y.2 || x.apart ops y.1) h hi
  simp only [Bool.and_eq_true] at this
  have h2 := List.all_eq_true.1 this.1 e he
  rw [hb] at h2
  simpa using h2
theorem drawOK_apart {ops : Array Oper} (h : drawOK ops = true) {i j : Nat} {x y : Oper} (hi : ops.toList[i]? = some x) (hj : ops.toList[j]? = some y) (hlt : i < j) : ordB (befL ops.toList []) i j = true ∨ x.apart ops y = true := by
  unfold drawOK at h
  have := zipIdx_all (p := fun x i => x.after.toList.all (fun e => !(Region.binds .any e) || Nat.blt e.on i) && ops.toList.zipIdx.all fun y => Nat.ble y.2 i || ordB (befL ops.toList []) i y.2 || x.apart ops y.1) h hi
  simp only [Bool.and_eq_true] at this
  have h2 := zipIdx_all (p := fun y j => Nat.ble j i || ordB (befL ops.toList []) i j || x.apart ops y) this.2 hj
  rw [show Nat.ble j i = false by rw [Bool.eq_false_iff]; simp; omega] at h2
  simpa using h2
theorem recsOK_spec {B : List Nat} {recs : List Rec} (h : recsOK B recs = true) {i j : Nat} {x y : Rec} (hi : recs.reverse[i]? = some x) (hj : recs.reverse[j]? = some y) (hne : i ≠ j) {b : Nat} (hb : b ∈ x.wr) :
    ordB B i j = true ∨ (¬ inFt y.ft b ∧ ¬ (y.lo ≤ b ∧ b < y.hi)) := by
  unfold recsOK recsAll at h
  have h1 := zipIdx_all (p := fun x i => recOK B recs.reverse.zipIdx x i) h hi
  unfold recOK at h1
  split at h1
  · rename_i he; rw [he] at hb; simp at hb
  · have h2 := zipIdx_all (p := fun y j => Nat.beq i j || ordB B i j || apartR x y) h1 hj
    have hnb : Nat.beq i j = false := by
      rw [Bool.eq_false_iff]; intro e; exact hne (Nat.eq_of_beq_eq_true e)
    rw [hnb, Bool.false_or, Bool.or_eq_true] at h2
    refine h2.imp id fun h3 => ?_
    unfold apartR at h3
    have h4 := List.all_eq_true.1 h3 b hb
    simp only [Bool.and_eq_true] at h4
    refine ⟨?_, ?_⟩
    · cases hf : y.ft with
      | none => rw [hf] at h4; simp at h4
      | some l =>
        rw [hf] at h4
        simp only [inFt]
        intro hm
        have h5 := h4.1
        simp only [Bool.not_eq_true', ← Bool.not_eq_true, List.any_eq_true] at h5
        exact h5 ⟨b, hm, by simp⟩
    · intro hr
      have h5 := h4.2
      rw [show Nat.ble y.lo b = true by simpa using hr.1, show Nat.blt b y.hi = true by simpa using hr.2] at h5
      simp at h5
end Go.Ev
