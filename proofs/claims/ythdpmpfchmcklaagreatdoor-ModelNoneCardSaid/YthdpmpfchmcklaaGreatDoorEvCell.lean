import Derived.Test.YthdpmpfchmcklaaGreatDoorEvTr
namespace Go.Ev
open Go.RowKit

/-! ### Cells, abstract -/
theorem rdN_zero (k : T Value) (o : Nat) : rdN k 0 o = some [] := rfl
theorem rdN_succ (k : T Value) (n o : Nat) : rdN k (n + 1) o = match k.get o with
    | some v => match rdN k n (o + 1) with
      | some l => some (v :: l)
      | none => none
    | none => none := by
  show (match k.get o with | some v => (match forceN (o + 1) (rdN k n) with | some l => some (v :: l) | none => none) | none => none) = _
  rw [forceN_eq]
theorem rdN_some {k : T Value} : ∀ {n o : Nat} {l : List Value}, rdN k n o = some l → l.length = n ∧ ∀ j, j < n → k.get (o + j) = l[j]?
  | 0, o, l, h => by rw [rdN_zero] at h; cases h; exact ⟨rfl, fun j hj => by omega⟩
  | n + 1, o, l, h => by
    rw [rdN_succ] at h
    split at h
    · rename_i v hv
      split at h
      · rename_i r hr
        cases h
        obtain ⟨h1, h2⟩ := rdN_some hr
        refine ⟨by simp [h1], fun j hj => ?_⟩
        cases j with
        | zero => simpa using hv
        | succ j => rw [show o + (j + 1) = o + 1 + j by omega, h2 j (by omega)]; simp
      · cases h
    · cases h
theorem rd_some {h : Heap} {b o n : Nat} {l : List Value} (e : rd h b o n = some l) : ∃ k, h.get b = some k ∧ o + n ≤ k.len ∧ l.length = n ∧ ∀ j, j < n → k.cs.get (o + j) = l[j]? := by
  unfold rd at e
  split at e
  · rename_i cs len el g hk
    by_cases hc : o + n ≤ len
    · rw [show Nat.ble (o + n) len = true by simpa using hc] at e
      obtain ⟨h1, h2⟩ := rdN_some (show rdN cs n o = some l from e)
      exact ⟨_, hk, hc, h1, h2⟩
    · rw [show Nat.ble (o + n) len = false by rw [Bool.eq_false_iff]; simpa using hc] at e
      cases e
  · cases e
theorem wrN_cons (v : Value) (r : List Value) (k : T Value) (o : Nat) : wrN (v :: r) k o = wrN r (k.put o (some v)) (o + 1) := by
  show (forceA v fun v => forceT (k.put o (some v)) fun k => forceN (o + 1) fun o => wrN r k o) = _
  simp only [forceA_eq, forceT_eq, forceN_eq]
theorem wrN_get : ∀ (vs : List Value) (k : T Value) (o i : Nat), (wrN vs k o).get i = if o ≤ i ∧ i < o + vs.length then vs[i - o]? else k.get i
  | [], k, o, i => by rw [if_neg (by simp only [List.length_nil]; omega)]; rfl
  | v :: r, k, o, i => by
    rw [wrN_cons, wrN_get r, T.get_put]
    by_cases h1 : o + 1 ≤ i ∧ i < o + 1 + r.length
    · rw [if_pos h1, if_pos (by simp; omega), show i - o = (i - (o + 1)) + 1 by omega]; simp
    · rw [if_neg h1]
      by_cases h2 : i = o
      · subst h2; rw [if_pos rfl, if_pos (by simp)]; simp
      · rw [if_neg h2, if_neg (by simp; omega)]
theorem wrt_some {h h' : Heap} {b o : Nat} {vs : List Value} (e : wrt h b o vs = some h') : ∃ k, h.get b = some k ∧ o + vs.length ≤ k.len ∧ (∀ v ∈ vs, v.oneCell' = true) ∧ h' = h.put b (some ⟨wrN vs k.cs o, k.len, k.elem, k.grown⟩) := by
  unfold wrt at e
  split at e
  · rename_i cs len el g hk
    by_cases hc : (Nat.ble (o + vs.length) len && vs.all Value.oneCell') = true
    · rw [hc] at e
      simp only [cond, forceT_eq, Option.some.injEq] at e
      simp only [Bool.and_eq_true, List.all_eq_true, Nat.ble_eq] at hc
      exact ⟨_, hk, hc.1, hc.2, e.symm⟩
    · rw [Bool.not_eq_true] at hc; rw [hc] at e; cases e
  · cases e
theorem mkBlk_eq {α : Type} (vs : List Value) (e : TypeId) (g : Nat) (k : Blk → α) : mkBlk vs e g k = k ⟨wrN vs .nil 0, vs.length, e, g⟩ := by
  simp only [mkBlk, forceT_eq, forceN_eq]
theorem new_get (vs : List Value) (i : Nat) : (wrN vs .nil 0).get i = vs[i]? := by
  rw [wrN_get]
  by_cases h : i < vs.length
  · rw [if_pos (by omega)]; simp
  · rw [if_neg (by omega), List.getElem?_eq_none (by omega)]; rfl

/-! ### Cells, real -/
theorem setCells_heap (g : Nat) : ∀ (vs : List Value) (o : Nat) (w : World) (rs : Array Value) (e : TypeId) (fz : Nat × Nat), w.heap[g]? = some (.cells rs e fz) → o + vs.length ≤ rs.size →
    ∃ rs' : Array Value, (w.setCells g o vs).heap[g]? = some (.cells rs' e fz) ∧ rs'.size = rs.size ∧ ∀ i, rs'[i]? = if o ≤ i ∧ i < o + vs.length then vs[i - o]? else rs[i]?
  | [], o, w, rs, e, fz, h, _ => ⟨rs, h, rfl, fun i => by rw [if_neg (by simp only [List.length_nil]; omega)]⟩
  | v :: r, o, w, rs, e, fz, h, hl => by
    simp only [List.length_cons] at hl
    have h1 : (w.setCell ⟨g, o, none⟩ v).heap[g]? = some (.cells (rs.setIfInBounds o v) e fz) := by
      simp [World.setCell, Array.getElem?_modify, h]
    obtain ⟨rs', a, b, c⟩ := setCells_heap g r (o + 1) _ _ e fz h1 (by simp; omega)
    refine ⟨rs', by rw [World.setCells]; exact a, by simpa using b, fun i => ?_⟩
    rw [c i]
    by_cases q : o + 1 ≤ i ∧ i < o + 1 + r.length
    · rw [if_pos q, if_pos (by simp; omega), show i - o = (i - (o + 1)) + 1 by omega]; simp
    · rw [if_neg q]
      by_cases q2 : i = o
      · subst q2; rw [if_pos (by simp)]; simp [Array.getElem?_setIfInBounds]; omega
      · rw [if_neg (by simp; omega), Array.getElem?_setIfInBounds, if_neg (by omega)]
theorem setCells_far (g : Nat) : ∀ (vs : List Value) (o : Nat) (w : World) (k : Nat), k ≠ g → (w.setCells g o vs).heap[k]? = w.heap[k]?
  | [], _, _, _, _ => rfl
  | v :: r, o, w, k, h => by rw [World.setCells, setCells_far g r _ _ k h]; exact Below.heap_setCell w ⟨g, o, none⟩ v k h
theorem setCells_rest (g : Nat) : ∀ (vs : List Value) (o : Nat) (w : World), (w.setCells g o vs).os = w.os ∧ (w.setCells g o vs).tape = w.tape ∧ (w.setCells g o vs).output = w.output ∧ (w.setCells g o vs).heap.size = w.heap.size
  | [], _, _ => ⟨rfl, rfl, rfl, rfl⟩
  | v :: r, o, w => by
    obtain ⟨a, b, c, d⟩ := setCells_rest g r (o + 1) (w.setCell ⟨g, o, none⟩ v)
    exact ⟨a, b, c, by rw [World.setCells, d]; simp [World.setCell]⟩

/-- Cells that are read. -/
theorem BR.cells {σ : Sig} {m : BM} {k : Blk} {w : World} (hb : BR σ m k w) {o n : Nat} {l : List Value} (hn : o + n ≤ k.len) (hl : l.length = n) (hg : ∀ j, j < n → k.cs.get (o + j) = l[j]?) :
    ∃ l', LR σ l l' ∧ ∀ j v, l'[j]? = some v → w.cell? ⟨m.blk, m.sh + o + j, none⟩ = some v := by
  subst hl
  induction l generalizing o with
  | nil => exact ⟨[], LR.nil, fun j v h => by simp at h⟩
  | cons v r ih =>
    simp only [List.length_cons] at hn hg
    obtain ⟨v', hc, hv⟩ := hb.cell (i := o) (v := v) (by omega) (by have := hg 0 (by omega); simpa using this)
    obtain ⟨l', h1, h2⟩ := ih (o := o + 1) (by omega) (fun j hj => by have := hg (j + 1) (by omega); simpa [Nat.add_assoc, Nat.add_comm 1 j] using this)
    refine ⟨v' :: l', h1.cons hv, fun j u hu => ?_⟩
    cases j with
    | zero => simp at hu; subst hu; simpa using hc
    | succ j => simp at hu; have := h2 j u hu; rwa [show m.sh + o + (j + 1) = m.sh + (o + 1) + j by omega]

/-! ### What operations leave -/
theorem hr_new {σ : Sig} {sup : Nat} (hd : Dom σ sup) (h : Heap) (w : World) : HR (fun b => sup ≤ b) σ h w :=
  ⟨fun b m k hb hm _ => by have := hd b m hm; omega, fun b1 b2 m1 m2 k1 k2 s1 _ e1 _ _ _ _ => by have := hd b1 m1 e1; omega⟩
theorem hr_or {S : Nat → Prop} {σ : Sig} {sup : Nat} {h : Heap} {w : World} (hd : Dom σ sup) (k : HR S σ h w) : HR (fun b => S b ∨ sup ≤ b) σ h w :=
  k.sub fun b m hb hs => hs.resolve_right (by have := hd b m hb; omega)
theorem abs_pure (v : Value) (sup : Nat) (h : Heap) (ft : List Nat) : Abs sup h ⟨v, sup, h, [], some ft⟩ :=
  ⟨Nat.le_refl _, fun _ _ _ => rfl, fun b hb => by simp at hb, fun b hb => by simp at hb, id⟩
theorem post_read {σ : Sig} {sup : Nat} {h : Heap} {w : World} {v v' : Value} {ft : List Nat} (hd : Dom σ sup) (hr : HR (inFt (some ft)) σ h w) (hv : VR σ v v') : Post σ sup ⟨v, sup, h, [], some ft⟩ w v' w :=
  ⟨σ, Tr.refl _ _ _ _, hv, hr_or hd hr⟩
theorem post_pure {σ : Sig} {sup : Nat} {h : Heap} {w : World} {v v' : Value} (hd : Dom σ sup) (hv : VR σ v v') : Post σ sup ⟨v, sup, h, [], some []⟩ w v' w :=
  ⟨σ, Tr.refl _ _ _ _, hv, (hr_new hd h w).sub fun _ _ _ hs => hs.resolve_left (by simp [inFt])⟩

def sigPut (σ : Sig) (b : Nat) (m : BM) : Sig := fun x => if x = b then some m else σ x
theorem sigPut_le {σ : Sig} {sup : Nat} (hd : Dom σ sup) (m : BM) : σ.le (sigPut σ sup m) := by
  intro b x hb
  have := hd b x hb
  unfold sigPut; rw [if_neg (by omega)]; exact hb
theorem sigPut_at (σ : Sig) (b : Nat) (m : BM) : sigPut σ b m b = some m := by simp [sigPut]

/-- A new block. wr: what was done away with meanwhile. -/
theorem post_new {σ : Sig} {sup : Nat} {h h1 : Heap} {w w' : World} {v v' : Value} {vs vs' : List Value} {rest : List Value} {e : TypeId} {g : Nat} {ft wr : List Nat} {esz ext : Nat} {fz : Nat × Nat}
    (hd : Dom σ sup) (hvs : LR σ vs vs')
    (hw : w'.heap[w.heap.size]? = some (.cells (vs' ++ rest).toArray e fz)) (hz : ∀ i, i < vs.length + rest.length → ¬ (fz.1 ≤ i ∧ i < fz.2)) (hrest : rest.length = ext * esz) (hg : g = 0 → ext = 0) (hg2 : g ≠ 0 → esz = g)
    (hold : ∀ k, k < w.heap.size → w'.heap[k]? = w.heap[k]?) (hsz : w.heap.size ≤ w'.heap.size) (hos : w'.os = w.os ∧ w'.tape = w.tape ∧ w'.output = w.output)
    (hh : ∀ b k, b ≠ sup → h1.get b = some k → h.get b = some k)
    (hr : HR (inFt (some ft)) σ h w)
    (hv : VR (sigPut σ sup ⟨w.heap.size, 0, vs.length, esz, ext⟩) v v') :
    Post σ sup ⟨v, sup + 1, h1.put sup (some ⟨wrN vs .nil 0, vs.length, e, g⟩), wr, some ft⟩ w v' w' := by
  have hle := sigPut_le hd ⟨w.heap.size, 0, vs.length, esz, ext⟩
  have hlen : vs'.length = vs.length := hvs.1.symm
  have hnew : BR (sigPut σ sup ⟨w.heap.size, 0, vs.length, esz, ext⟩) ⟨w.heap.size, 0, vs.length, esz, ext⟩ ⟨wrN vs .nil 0, vs.length, e, g⟩ w' := by
    refine ⟨(vs' ++ rest).toArray, fz, hw, rfl, by simp [hlen, hrest], hg, hg2, fun i x hi hx => ?_, fun i hi => hz i (by simpa [hlen] using hi)⟩
    simp only [new_get] at hx
    obtain ⟨x', h1, h2⟩ := (hvs.mono hle).get hx
    have hi' : i < vs'.length := by rw [hlen]; exact hi
    exact ⟨x', by simpa [List.getElem?_append_left hi'] using h1, h2⟩
  have ht : Tr (· ∈ wr) σ (sigPut σ sup ⟨w.heap.size, 0, vs.length, esz, ext⟩) sup (sup + 1) w w' := by
    refine ⟨hle, fun b m hb => ?_, ⟨hos.1, hos.2.1, hos.2.2, hsz, fun k hk _ => hold k hk⟩⟩
    unfold sigPut at hb
    split at hb
    · rename_i he; subst he; cases hb; exact .inr ⟨Nat.le_refl _, by omega, .inl (Nat.le_refl _)⟩
    · exact .inl hb
  refine ⟨_, ht, hv, ?_⟩
  have oldf : ∀ b m k, (b ∈ ft ∨ sup ≤ b) → b ≠ sup → sigPut σ sup ⟨w.heap.size, 0, vs.length, esz, ext⟩ b = some m → (h1.put sup (some ⟨wrN vs .nil 0, vs.length, e, g⟩)).get b = some k → b ∈ ft ∧ σ b = some m ∧ h.get b = some k := by
    intro b m k hs hne hm hk
    rw [T.get_put, if_neg hne] at hk
    unfold sigPut at hm; rw [if_neg hne] at hm
    have := hd b m hm
    exact ⟨hs.resolve_right (by omega), hm, hh b k hne hk⟩
  refine ⟨fun b m k hs hm hk => ?_, fun b1 b2 m1 m2 k1 k2 s1 s2 e1 e2 g1 g2 he => ?_⟩
  · by_cases hb : b = sup
    · subst hb
      rw [T.get_put, if_pos rfl] at hk
      cases hk
      rw [sigPut_at] at hm
      cases hm
      exact hnew
    · obtain ⟨o1, o2, o3⟩ := oldf b m k hs hb hm hk
      have hb := hr.blk b m k o1 o2 o3
      exact (hb.mono hle).keep (hold _ hb.lt)
  · by_cases c1 : b1 = sup
    · by_cases c2 : b2 = sup
      · rw [c1, c2]
      · obtain ⟨o1, o2, o3⟩ := oldf b2 m2 k2 s2 c2 e2 g2
        subst c1; rw [sigPut_at] at e1; cases e1
        have := (hr.blk b2 m2 k2 o1 o2 o3).lt
        simp at he; omega
    · obtain ⟨p1, p2, p3⟩ := oldf b1 m1 k1 s1 c1 e1 g1
      by_cases c2 : b2 = sup
      · subst c2; rw [sigPut_at] at e2; cases e2
        have := (hr.blk b1 m1 k1 p1 p2 p3).lt
        simp at he; omega
      · obtain ⟨o1, o2, o3⟩ := oldf b2 m2 k2 s2 c2 e2 g2
        exact hr.inj b1 b2 m1 m2 k1 k2 p1 o1 p2 o2 p3 o3 he
theorem abs_new (v : Value) (sup : Nat) (h : Heap) (k : Blk) (ft : List Nat) : Abs sup h ⟨v, sup + 1, h.put sup (some k), [], some ft⟩ :=
  ⟨by simp, fun b hb _ => by simp only; rw [T.get_put, if_neg (by omega)], fun b hb => by simp at hb, fun b hb => by simp at hb,
    fun hf b hb => by simp only at hb ⊢; rw [T.get_put, if_neg (by omega)]; exact hf b (by omega)⟩
end Go.Ev
