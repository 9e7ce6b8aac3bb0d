import Derived.Test.YthdpmpfchmcklaaGreatDoorEvOp
namespace Go.Ev
open Go.RowKit

/-! #### new blocks -/
theorem post_push {σ : Sig} {sup : Nat} {h h1 : Heap} {w w' : World} {v v' : Value} {vs vs' rest : List Value} {e : TypeId} {g : Nat} {ft wr : List Nat} {esz ext : Nat} {fz : Nat × Nat}
    (hd : Dom σ sup) (hvs : LR σ vs vs') (hw : w'.heap = w.heap.push (.cells (vs' ++ rest).toArray e fz)) (hz : ∀ i, i < vs.length + rest.length → ¬ (fz.1 ≤ i ∧ i < fz.2)) (hrest : rest.length = ext * esz)
    (hg : g = 0 → ext = 0) (hg2 : g ≠ 0 → esz = g) (hos : w'.os = w.os ∧ w'.tape = w.tape ∧ w'.output = w.output)
    (hh : ∀ b k, b ≠ sup → h1.get b = some k → h.get b = some k) (hr : HR (inFt (some ft)) σ h w)
    (hv : VR (sigPut σ sup ⟨w.heap.size, 0, vs.length, esz, ext⟩) v v') :
    Post σ sup ⟨v, sup + 1, h1.put sup (some ⟨wrN vs .nil 0, vs.length, e, g⟩), wr, some ft⟩ w v' w' := by
  refine post_new (fz := fz) (rest := rest) (esz := esz) (ext := ext) hd hvs ?_ hz hrest hg hg2 ?_ ?_ hos hh hr hv
  · rw [hw]; simp
  · intro k hk; rw [hw, Array.getElem?_push]; rw [if_neg (by omega)]
  · rw [hw]; simp
theorem LR.refl_plain {σ : Sig} : ∀ {l : List Value}, l.all plain = true → LR σ l l
  | [], _ => LR.nil
  | v :: r, h => by
    simp only [List.all_cons, Bool.and_eq_true] at h
    exact (LR.refl_plain h.2).cons (.plain h.1)
theorem zeroA_some {P : Program} {t : TypeId} {z : List Value} (h : zeroA P t = some z) : ∃ i v, P.info? t = some i ∧ i.zero = some v ∧ z = v.cells.toList ∧ z.all plain = true := by
  unfold zeroA at h
  split at h
  · rename_i i hi
    split at h
    · rename_i v hv
      split at h
      · rename_i ha; cases h; exact ⟨i, v, hi, hv, rfl, ha⟩
      · cases h
    · cases h
  · cases h
theorem ptrTo_some {vs : List Value} {e : TypeId} {sup : Nat} {h : Heap} {r : R} (x : ptrTo vs e sup h = some r) : r = ⟨.pointer (some ⟨sup, 0, none⟩), sup + 1, h.put sup (some ⟨wrN vs .nil 0, vs.length, e, 0⟩), [], some []⟩ := by
  unfold ptrTo at x
  rw [mkBlk_eq] at x
  cases x; rfl
theorem post_ptr {σ : Sig} {sup : Nat} {h : Heap} {w : World} {vs : List Value} {cs : Array Value} {e : TypeId} (hd : Dom σ sup) (hvs : LR σ vs cs.toList) (hr : HR (inFt (some [])) σ h w) :
    Post σ sup ⟨.pointer (some ⟨sup, 0, none⟩), sup + 1, h.put sup (some ⟨wrN vs .nil 0, vs.length, e, 0⟩), [], some []⟩ w (.pointer (some ⟨w.heap.size, 0, none⟩)) (w.alloc (.cells cs e)) := by
  refine post_push (esz := 0) (ext := 0) (rest := []) (fz := (0, 0)) hd hvs ?_ (fun i _ => by simp) rfl (fun _ => rfl) (fun h => absurd rfl h) ⟨rfl, rfl, rfl⟩ (fun _ _ _ h => h) hr ?_
  · show w.heap.push _ = w.heap.push _
    simp
  · have := VR.ptr (o := 0) (sigPut_at σ sup ⟨w.heap.size, 0, vs.length, 0, 0⟩)
    simpa using this
theorem s_alloc (P : Program) (e : TypeId) : OpS P (.alloc e) (fun _ => oAlloc P e) := by
  intro fr sup h r x hf
  unfold oAlloc at x
  split at x
  · rename_i z hz
    obtain rfl := ptrTo_some x
    obtain ⟨i, v, hi, hv, rfl, hp⟩ := zeroA_some hz
    refine ⟨abs_new _ _ _ _ _, fun o ho σ a w hx hr hd hg K Q hK => ?_⟩
    refine wp_value (v := .pointer (some ⟨w.heap.size, 0, none⟩)) (w' := w.alloc (.cells v.cells e)) ?_ (hK _ _ (post_ptr hd (LR.refl_plain hp) hr))
    simp [execOp, ho, Instr.alloc, zeroValue, typeInfo, hi, hv, newVar, newRow]
  · cases x
theorem s_box (P : Program) (e : TypeId) (y : Operand) : OpS P (.box e y) (x1 y (oBox e)).f := by
  intro fr sup h r x hf
  rw [x1_f] at x
  unfold oBox at x
  split at x
  · rename_i v hv
    obtain rfl := ptrTo_some x
    refine ⟨abs_new _ _ _ _ _, fun o ho σ a w hx hr hd hg K Q hK => ?_⟩
    have h1 := (hx y (by simp [Op.operands]) _ hv).cells.toList
    refine wp_value (v := .pointer (some ⟨w.heap.size, 0, none⟩)) (w' := w.alloc (.cells (a.eval y).cells e)) ?_ (hK _ _ (post_ptr hd h1 hr))
    simp [execOp, ho, Instr.box, newVar, newRow]
  · cases x

/-! #### load, store -/
theorem rd_run {P : Program} {σ : Sig} {h : Heap} {b o n : Nat} {l : List Value} {w : World} {m : BM} (e : rd h b o n = some l) (_hm : σ b = some m) (hr : ∀ k, h.get b = some k → BR σ m k w) :
    ∃ l', LR σ l l' ∧ l.length = n ∧ l'.length = n ∧ (∀ j v, l'[j]? = some v → w.cell? ⟨m.blk, m.sh + o + j, none⟩ = some v) ∧ (loadCells ⟨m.blk, m.sh + o, none⟩ n).run P w = .ok l'.toArray w := by
  obtain ⟨k, hk, hlen, hl, hg⟩ := rd_some e
  obtain ⟨l', h1, h2⟩ := (hr k hk).cells hlen hl hg
  have hl' : l'.length = n := by rw [← h1.1, hl]
  refine ⟨l', h1, hl, hl', h2, ?_⟩
  have := run_loadCells_list (P := P) w ⟨m.blk, m.sh + o, none⟩ l' (fun j v hv => by rw [Addr.add_lit]; exact h2 j v hv)
  rwa [hl'] at this
theorem ldA_run {P : Program} {σ : Sig} {t : TypeId} {h : Heap} {b o : Nat} {v : Value} {w : World} {m : BM} (e : ldA P t h b o = some v) (hm : σ b = some m) (hr : ∀ k, h.get b = some k → BR σ m k w) :
    ∃ v', (loadVar t ⟨m.blk, m.sh + o, none⟩).run P w = .ok v' w ∧ VR σ v v' := by
  unfold ldA at e
  split at e
  · rename_i ha
    split at e
    · rename_i n hn
      split at e
      · rename_i l hl
        cases e
        obtain ⟨l', h1, _, _, _, h2⟩ := rd_run (P := P) hl hm hr
        exact ⟨.agg l'.toArray, by simp [loadVar, isAggA_run ha, szA_run hn, h2], .agg h1.toArray.1 h1.toArray.2⟩
      · cases e
    · cases e
  · rename_i ha
    split at e
    · rename_i u hl
      cases e
      obtain ⟨l', h1, _, h3, h4, _⟩ := rd_run (P := P) hl hm hr
      obtain ⟨u', d', rfl, hv, _⟩ := h1.head
      refine ⟨u', ?_, hv⟩
      have hc := h4 0 u' rfl
      simp only [Nat.add_zero] at hc
      simp [loadVar, isAggA_run ha, hc]
    · cases e
  · cases e
theorem s_load (P : Program) (t : TypeId) (x : Operand) : OpS P (.load t x) (x1 x (oLoad P t)).f := by
  intro fr sup h r e hf
  rw [x1_f] at e
  unfold oLoad at e
  split at e
  · rename_i b o hv
    split at e
    · rename_i v hl
      cases e
      refine ⟨abs_pure _ _ _ _, fun o' ho σ a w hx hr hd hg K Q hK => ?_⟩
      obtain ⟨m, hm, e1⟩ := (hx x (by simp [Op.operands]) _ hv).of_ptr
      obtain ⟨v', h1, h2⟩ := ldA_run (w := w) hl hm (fun k hk => hr.blk b m k (by simp [inFt]) hm hk)
      refine wp_value (v := v') (w' := w) ?_ (hK _ _ (post_read hd hr h2))
      simp [execOp, ho, e1, Instr.loadAt, Instr.sureAddr, h1]
    · cases e
  · cases e
theorem abs_write {v : Value} {sup : Nat} {h : Heap} {b : Nat} {k k' : Blk} {ft : List Nat} (hf : HF h sup) (hk : h.get b = some k) (hb : b ∈ ft) : Abs sup h ⟨v, sup, h.put b (some k'), [b], some ft⟩ := by
  have hlt : b < sup := by
    rcases Nat.lt_or_ge b sup with h1 | h1
    · exact h1
    · rw [hf b h1] at hk; cases hk
  refine ⟨Nat.le_refl _, fun c hc hw => ?_, fun c hc => ?_, fun c hc => ?_, fun hf c hc => ?_⟩
  · simp only [List.mem_singleton] at hw
    simp only [T.get_put, if_neg hw]
  · simp only [List.mem_singleton] at hc; subst hc; exact ⟨hlt, k, hk⟩
  · simp only [List.mem_singleton] at hc; subst hc; exact hb
  · simp only [T.get_put] at hc ⊢
    rw [if_neg (by omega)]; exact hf c hc
theorem post_write {σ : Sig} {sup : Nat} {h : Heap} {w : World} {v v' : Value} {b o : Nat} {k : Blk} {m : BM} {vs vs' : List Value} {ft : List Nat} (hd : Dom σ sup) (hr : HR (inFt (some ft)) σ h w) (hb : b ∈ ft)
    (hm : σ b = some m) (hk : h.get b = some k) (hle : o + vs.length ≤ k.len) (hvs : LR σ vs vs') (hv : VR σ v v') :
    Post σ sup ⟨v, sup, h.put b (some ⟨wrN vs k.cs o, k.len, k.elem, k.grown⟩), [b], some ft⟩ w v' (w.setCells m.blk (m.sh + o) vs') := by
  obtain ⟨r1, r2, r3, r4⟩ := setCells_rest m.blk vs' (m.sh + o) w
  have hlen : vs'.length = vs.length := hvs.1.symm
  refine ⟨σ, ⟨Sig.le_refl _, fun _ _ h => .inl h, ⟨r1, r2, r3, by omega, fun x _ hc => setCells_far m.blk vs' (m.sh + o) w x (fun e => hc b m hm (by simp) e.symm)⟩⟩, hv, ?_⟩
  have hB := hr.blk b m k hb hm hk
  refine ⟨fun c mc kc hs hmc hkc => ?_, fun b1 b2 m1 m2 k1 k2 s1 s2 e1 e2 g1 g2 he => ?_⟩
  · by_cases hcb : c = b
    · subst hcb
      rw [hm] at hmc; cases hmc
      rw [T.get_put, if_pos rfl] at hkc; cases hkc
      obtain ⟨rs, fz, hh, ha, hrz, hg1, hg2, hc, hfz⟩ := hB
      obtain ⟨rs', q1, q2, q3⟩ := setCells_heap m.blk vs' (m.sh + o) w rs k.elem fz hh (by rw [hlen, hrz]; omega)
      refine ⟨rs', fz, q1, ha, by rw [q2, hrz], hg1, hg2, fun i x hi hx => ?_, fun i hi => hfz i (by rw [q2] at hi; exact hi)⟩
      simp only at hi hx
      rw [wrN_get] at hx
      rw [q3, hlen]
      by_cases hin : o ≤ i ∧ i < o + vs.length
      · rw [if_pos hin] at hx
        rw [if_pos (by omega), show m.sh + i - (m.sh + o) = i - o by omega]
        exact hvs.get hx
      · rw [if_neg hin] at hx
        rw [if_neg (by omega)]
        exact hc i x hi hx
    · rw [T.get_put, if_neg hcb] at hkc
      have hlt := hd c mc hmc
      have hs' : c ∈ ft := hs.resolve_right (by omega)
      refine (hr.blk c mc kc hs' hmc hkc).keep (setCells_far _ _ _ _ _ fun e => hcb (hr.inj c b mc m kc k hs' hb hmc hm hkc hk e))
  · have old : ∀ c mc kc, (c ∈ ft ∨ sup ≤ c) → σ c = some mc → (h.put b (some ⟨wrN vs k.cs o, k.len, k.elem, k.grown⟩)).get c = some kc → c ∈ ft ∧ ∃ k', h.get c = some k' := by
      intro c mc kc hs hmc hkc
      have hlt := hd c mc hmc
      refine ⟨hs.resolve_right (by omega), ?_⟩
      rw [T.get_put] at hkc
      split at hkc
      · rename_i e; subst e; exact ⟨k, hk⟩
      · exact ⟨kc, hkc⟩
    obtain ⟨p1, q1, p2⟩ := old b1 m1 k1 s1 e1 g1
    obtain ⟨p3, q3, p4⟩ := old b2 m2 k2 s2 e2 g2
    exact hr.inj b1 b2 m1 m2 q1 q3 p1 p3 e1 e2 p2 p4 he
theorem store_run {P : Program} {σ : Sig} {m : BM} {k : Blk} {w : World} (hB : BR σ m k w) {o : Nat} {vs' : List Value} (hle : o + vs'.length ≤ k.len) (h1 : ∀ v ∈ vs', v.oneCell' = true) :
    (storeCells ⟨m.blk, m.sh + o, none⟩ vs').run P w = .ok () (w.setCells m.blk (m.sh + o) vs') := by
  have := run_storeCells_cells (P := P) m.blk (m.sh + o) vs' 0 w (fun j hj => by have := (hB.there (i := o + j) (by omega)).1; simpa [Nat.add_assoc] using this)
    (fun j hj => by have := (hB.there (i := o + j) (by omega)).2; simpa [Nat.add_assoc] using this) h1
  simpa using this
theorem LR.one {σ : Sig} {l l' : List Value} (h : LR σ l l') (h1 : ∀ v ∈ l, v.oneCell' = true) : ∀ v ∈ l', v.oneCell' = true := by
  intro v' hv'
  obtain ⟨i, hi⟩ := List.getElem?_of_mem hv'
  have hlt : i < l.length := by rw [h.1]; exact (List.getElem?_eq_some_iff.1 hi).1
  have := h.2 i _ _ (List.getElem?_eq_getElem hlt) hi
  rw [this.oneCell]
  exact h1 _ (List.getElem_mem hlt)
theorem vr_undef {σ : Sig} : VR σ undef undef := .tuple rfl fun i v v' h => by simp at h
theorem s_store (P : Program) (t : TypeId) (x y : Operand) : OpS P (.store t x y) (x2 x y (oStore P t)).f := by
  intro fr sup h r e hf
  rw [x2_f] at e
  unfold oStore at e
  split at e
  · rename_i b o v n hxv hyv hn
    obtain ⟨hsz, e⟩ := cond_some e
    split at e
    · rename_i h' hw
      cases e
      obtain ⟨k, hk, hle, h1, rfl⟩ := wrt_some hw
      refine ⟨abs_write hf hk (by simp), fun o' ho σ a w hx hr hd hg K Q hK => ?_⟩
      obtain ⟨m, hm, e1⟩ := (hx x (by simp [Op.operands]) _ hxv).of_ptr
      have hvs := (hx y (by simp [Op.operands]) _ hyv).cells.toList
      have hB := hr.blk b m k (by simp [inFt]) hm hk
      have hn' : (a.eval y).cells.size = n := by
        have := hvs.1
        rw [Array.length_toList] at this
        rw [Array.length_toList] at this
        rw [← this]; simpa using hsz
      have hst := store_run (P := P) hB (o := o) (vs' := (a.eval y).cells.toList) (by rw [← hvs.1]; exact hle) (hvs.one h1)
      refine wp_skip' (w' := w.setCells m.blk (m.sh + o) (a.eval y).cells.toList) ?_ (hK _ _ (post_write hd hr (by simp) hm hk hle hvs vr_undef))
      simp [execOp, ho, e1, Instr.storeAt, Instr.sureAddr, storeVar, szA_run hn, hn', hst]
    · cases e
  · cases e
end Go.Ev
