import Derived.Test.YthdpmpfchmcklaaGreatDoorEvOp4
import Derived.Lib.ConvBytes
namespace Go.Ev
open Go.RowKit

/-! #### zeros -/
theorem zerosOf_length (z : List Value) : ∀ n, (zerosOf z n).length = n * z.length
  | 0 => by simp [zerosOf]
  | n + 1 => by simp only [zerosOf, List.length_append, zerosOf_length z n]; rw [Nat.add_mul]; omega
theorem zerosOf_get (z : List Value) : ∀ n i, i < n * z.length → (zerosOf z n)[i]? = z[i % z.length]?
  | 0, i, h => by simp at h
  | n + 1, i, h => by
    have h' : i < n * z.length + z.length := by rw [Nat.add_mul, Nat.one_mul] at h; exact h
    simp only [zerosOf]
    by_cases hi : i < z.length
    · rw [List.getElem?_append_left hi, Nat.mod_eq_of_lt hi]
    · rw [List.getElem?_append_right (by omega), zerosOf_get z n _ (by omega)]
      congr 1
      rw [← Nat.mod_eq_sub_mod (by omega)]
theorem zerosOf_made (z : Array Value) (n : Nat) (hz : 0 < z.size) : (Array.range (n * z.size)).map (z[· % z.size]!) = (zerosOf z.toList n).toArray := by
  apply Array.ext'
  apply List.ext_getElem?
  intro i
  simp only [Array.toList_map, Array.toList_range, List.getElem?_map]
  by_cases hi : i < n * z.size
  · rw [List.getElem?_range hi, zerosOf_get z.toList n i (by simpa using hi)]
    have hm : i % z.size < z.size := Nat.mod_lt _ hz
    simp [getElem!_pos z (i % z.size) hm, Array.getElem?_eq_getElem hm]
  · rw [List.getElem?_eq_none (by simpa using Nat.le_of_not_lt hi), List.getElem?_eq_none (by rw [zerosOf_length]; simpa using Nat.le_of_not_lt hi)]
    rfl
theorem zerosOf_plain {z : List Value} (h : z.all plain = true) : ∀ n, (zerosOf z n).all plain = true
  | 0 => rfl
  | n + 1 => by simp only [zerosOf, List.all_append, h, zerosOf_plain h n, Bool.and_self]

/-! #### fresh rows -/
theorem newA_some {vs : List Value} {e : TypeId} {g n c sup : Nat} {h : Heap} {ft : List Nat} {r : R} (x : newA vs e g n c sup h ft = some r) :
    r = ⟨.slice (some ⟨sup, 0, none⟩) n c, sup + 1, h.put sup (some ⟨wrN vs .nil 0, vs.length, e, g⟩), [], some ft⟩ := by
  unfold newA at x
  rw [mkBlk_eq] at x
  cases x; rfl
theorem post_row {σ : Sig} {sup : Nat} {h : Heap} {w w' : World} {vs : List Value} {cs : Array Value} {e : TypeId} {n c : Nat} (hd : Dom σ sup) (hvs : LR σ vs cs.toList) (hr : HR (inFt (some [])) σ h w) (hn : n ≤ c)
    (hw : w' = w.alloc (.cells cs e)) :
    Post σ sup ⟨.slice (some ⟨sup, 0, none⟩) n c, sup + 1, h.put sup (some ⟨wrN vs .nil 0, vs.length, e, 0⟩), [], some []⟩ w (.slice (some ⟨w.heap.size, 0, none⟩) n c) w' := by
  subst hw
  refine post_push (esz := 0) (ext := 0) (rest := []) (fz := (0, 0)) hd hvs ?_ (fun i _ => by simp) rfl (fun _ => rfl) (fun h => absurd rfl h) ⟨rfl, rfl, rfl⟩ (fun _ _ _ h => h) hr ?_
  · show w.heap.push _ = w.heap.push _
    simp
  · have := VR.slice (o := 0) (sigPut_at σ sup ⟨w.heap.size, 0, vs.length, 0, 0⟩) hn (.inl rfl)
    simpa using this

/-! #### makeSlice -/
theorem s_makeSlice (P : Program) (t : TypeId) (l c : Operand) : OpS P (.makeSlice t l c) (x2 l c (oMake P t)).f := by
  intro fr sup h r x hf
  rw [x2_f] at x
  unfold oMake at x
  split at x
  · rename_i lv cv hlv hcv
    unfold makeSliceA at x
    split at x
    · rename_i e hU
      split at x
      · rename_i i z ln cn hi hz hl hc
        obtain ⟨hcond, x⟩ := cond_some x
        obtain rfl := newA_some x
        simp only [Bool.and_eq_true, Nat.ble_eq, Nat.beq_eq, Nat.blt_eq] at hcond
        obtain ⟨⟨⟨c1, c2⟩, c3⟩, c4⟩ := hcond
        obtain ⟨kl, rfl⟩ := toNatA_some hl
        obtain ⟨kc, rfl⟩ := toNatA_some hc
        obtain ⟨i', v, hi', hv, rfl, hp⟩ := zeroA_some hz
        rw [hi] at hi'; cases hi'
        refine ⟨abs_new _ _ _ _ _, fun o ho σ a w hx hr hd hg K Q hK => ?_⟩
        have e1 := (hx l (by simp [Op.operands]) _ hlv).of_plain (by rfl)
        have e2 := (hx c (by simp [Op.operands]) _ hcv).of_plain (by rfl)
        have hsz : v.cells.size = i.size := by simpa using c3
        have hbc : i.bytes * cn ≤ 140737488355328 := by
          have : cn * (i.bytes + 1) = cn * i.bytes + cn := Nat.mul_succ _ _
          rw [Nat.mul_comm]; omega
        have hcn : cn ≤ 140737488355328 := by
          have : cn * (i.bytes + 1) = cn * i.bytes + cn := Nat.mul_succ _ _
          omega
        have hrun := run_make (P := P) w t e i v hU hi hv kl kc (ln : Int) (cn : Int) (by omega) (by omega) (by
          have : ((i.bytes * cn : Nat) : Int) ≤ 281474976710656 := by omega
          rwa [Int.natCast_mul] at this) (by omega)
        simp only [Int.toNat_natCast] at hrun
        have hmade : madeCells v.cells (cn * i.size) = (zerosOf v.cells.toList cn).toArray := by
          rw [← hsz]; exact zerosOf_made v.cells cn (by omega)
        rw [hmade] at hrun
        refine wp_value (v := .slice (some ⟨w.heap.size, 0, none⟩) ln cn) (w' := w.alloc (.cells (zerosOf v.cells.toList cn).toArray e)) ?_
          (hK _ _ (post_row hd (cs := (zerosOf v.cells.toList cn).toArray) (LR.refl_plain (zerosOf_plain hp cn)) hr c1 rfl))
        simp only [execOp, ho, e1, e2, Sem.run_bind, hrun, Result.andThen_ok, Sem.run_pure]
      · cases x
    · cases x
  · cases x

/-! #### build -/
/-- an array, and the row of cells that stands for it -/
def TR (σ : Sig) (n : Nat) (k : T Value) (cs : Array Value) : Prop := cs.size = n ∧ ∀ i v, i < n → k.get i = some v → ∃ v', cs[i]? = some v' ∧ VR σ v v'
theorem TR.new {σ : Sig} {vs : List Value} {cs : Array Value} (h : LR σ vs cs.toList) : TR σ vs.length (wrN vs .nil 0) cs := by
  refine ⟨by rw [h.1]; simp, fun i v _ hv => ?_⟩
  rw [new_get] at hv
  obtain ⟨v', h1, h2⟩ := h.get hv
  exact ⟨v', by simpa using h1, h2⟩
theorem fold_set (off : Nat) : ∀ (l : List Value) (s : Nat) (cs : Array Value), off + s + l.length ≤ cs.size →
    ((l.zipIdx s).foldl (fun cs (c, j) => cs.setIfInBounds (off + j) c) cs).size = cs.size ∧
    ∀ i, ((l.zipIdx s).foldl (fun cs (c, j) => cs.setIfInBounds (off + j) c) cs)[i]? = if off + s ≤ i ∧ i < off + s + l.length then l[i - (off + s)]? else cs[i]?
  | [], s, cs, _ => ⟨rfl, fun i => by rw [if_neg (by simp only [List.length_nil]; omega)]; rfl⟩
  | v :: r, s, cs, h => by
    simp only [List.length_cons] at h
    obtain ⟨h1, h2⟩ := fold_set off r (s + 1) (cs.setIfInBounds (off + s) v) (by simp; omega)
    refine ⟨by simp only [List.zipIdx_cons, List.foldl_cons]; rw [h1]; simp, fun i => ?_⟩
    simp only [List.zipIdx_cons, List.foldl_cons]
    rw [h2 i]
    by_cases q : off + (s + 1) ≤ i ∧ i < off + (s + 1) + r.length
    · rw [if_pos q, if_pos (by simp; omega), show i - (off + s) = (i - (off + (s + 1))) + 1 by omega]; simp
    · rw [if_neg q]
      by_cases q2 : i = off + s
      · subst q2; rw [if_pos (by simp), Array.getElem?_setIfInBounds]; simp; omega
      · rw [if_neg (by simp; omega), Array.getElem?_setIfInBounds, if_neg (by omega)]
/-- parts, and the real ones -/
inductive PR (σ : Sig) : List (Nat × Value) → List (Nat × Value) → Prop
  | nil : PR σ [] []
  | cons {i : Nat} {v v' : Value} {r r' : List (Nat × Value)} (h : VR σ v v') (hr : PR σ r r') : PR σ ((i, v) :: r) ((i, v') :: r')
theorem partsX_some {σ : Sig} {fr : Frm} {a : Act} : ∀ {l : List (Nat × Operand)} {vs : List (Nat × Value)}, (partsX l).f fr = some vs → (∀ p ∈ l, EvS σ fr a p.2) → PR σ vs (l.map fun (i, x) => (i, a.eval x))
  | [], vs, h, _ => by cases h; exact .nil
  | (i, x) :: r, vs, h, hx => by
    have h' : consP i ((evX x).f fr) ((partsX r).f fr) = some vs := h
    unfold consP at h'
    split at h'
    · rename_i v hv
      split at h'
      · rename_i xs hxs
        cases h'
        exact .cons (hx (i, x) (by simp) v hv) (partsX_some hxs fun p hp => hx p (by simp [hp]))
      · cases h'
    · cases h'
theorem fillA_cons (place : Nat → Option (Nat × Nat)) (len : Nat) (i : Nat) (v : Value) (r : List (Nat × Value)) (k : T Value) :
    fillA place len ((i, v) :: r) k = match place i with
      | some (off, size) => cond (Nat.beq v.cells.toList.length size && Nat.ble (off + size) len) (fillA place len r (wrN v.cells.toList k off)) none
      | none => none := by
  show (match place i with
      | some (off, size) => cond (Nat.beq v.cells.toList.length size && Nat.ble (off + size) len) (forceT (wrN v.cells.toList k off) (fillA place len r)) none
      | none => none) = _
  simp only [forceT_eq]
theorem fillA_some {σ : Sig} {place : Nat → Option (Nat × Nat)} {len : Nat} : ∀ {ps ps' : List (Nat × Value)} {k k' : T Value} {cs : Array Value}, PR σ ps ps' → fillA place len ps k = some k' → TR σ len k cs →
    ∃ cs', Instr.fill place cs ps' = some cs' ∧ TR σ len k' cs'
  | _, _, k, k', cs, .nil, h, ht => by
    have : k = k' := by
      have h' : some k = some k' := h
      cases h'; rfl
    subst this
    exact ⟨cs, rfl, ht⟩
  | _, _, k, k', cs, .cons (i := i) (v := v) (v' := v') (r := r) (r' := r') hv hr, h, ht => by
    rw [fillA_cons] at h
    split at h
    · rename_i off size hp
      obtain ⟨hc, h⟩ := cond_some h
      simp only [Bool.and_eq_true, Nat.beq_eq, Nat.ble_eq] at hc
      obtain ⟨h1, h2⟩ := hc
      have hvc := hv.cells.toList
      have hsz : v'.cells.size = size := by rw [← Array.length_toList, ← hvc.1, h1]
      have hf := fold_set off v'.cells.toList 0 cs (by rw [Array.length_toList, hsz, ht.1]; omega)
      have hz : v'.cells.zipIdx.foldl (fun cs (c, j) => cs.setIfInBounds (off + j) c) cs = (v'.cells.toList.zipIdx 0).foldl (fun cs (c, j) => cs.setIfInBounds (off + j) c) cs := by
        rw [← Array.foldl_toList, Array.toList_zipIdx]
      have ht' : TR σ len (wrN v.cells.toList k off) ((v'.cells.toList.zipIdx 0).foldl (fun cs (c, j) => cs.setIfInBounds (off + j) c) cs) := by
        refine ⟨by rw [hf.1]; exact ht.1, fun j x hj hx => ?_⟩
        rw [wrN_get] at hx
        rw [hf.2 j]
        rw [hvc.1] at hx
        by_cases q : off ≤ j ∧ j < off + v'.cells.toList.length
        · rw [if_pos q] at hx
          rw [if_pos (by omega), Nat.add_zero]
          exact hvc.get hx
        · rw [if_neg q] at hx
          rw [if_neg (by omega)]
          exact ht.2 j x hj hx
      obtain ⟨cs', h3, h4⟩ := fillA_some hr h ht'
      refine ⟨cs', ?_, h4⟩
      simp only [Instr.fill, hp]
      rw [if_neg (by simp [hsz, ht.1]; omega), hz]
      exact h3
    · cases h
theorem filled_some {σ : Sig} {place : Nat → Option (Nat × Nat)} {z l : List Value} {ps ps' : List (Nat × Value)} {cs : Array Value} (h : filled place z ps = some l) (hp : PR σ ps ps') (hz : LR σ z cs.toList) :
    ∃ cs', Instr.fill place cs ps' = some cs' ∧ LR σ l cs'.toList := by
  unfold filled at h
  split at h
  · rename_i k hk
    obtain ⟨cs', h1, h2, h3⟩ := fillA_some hp hk (TR.new hz)
    refine ⟨cs', h1, ?_⟩
    obtain ⟨h4, h5⟩ := rdN_some h
    refine ⟨by simp [h4, h2], fun i v v' hv hv' => ?_⟩
    have hi : i < z.length := by rw [← h4]; exact (List.getElem?_eq_some_iff.1 hv).1
    have := h5 i hi
    rw [hv, Nat.zero_add] at this
    obtain ⟨u, hu, hvr⟩ := h3 i v hi this
    have : some v' = some u := by rw [← hv', ← hu]; simp
    cases this; exact hvr
  · cases h
theorem placesA_some {P : Program} : ∀ {fs : List Field} {l : List (Nat × Nat)}, placesA P fs = some l → fs.mapM (fun f => (P.info? f.type).map fun i => (f.offset, i.size)) = some l
  | [], l, h => by cases h; rfl
  | f :: r, l, h => by
    unfold placesA at h
    split at h
    · rename_i n l' hn hl
      cases h
      obtain ⟨i, hi, rfl⟩ := szA_info hn
      simp [List.mapM_cons, hi, placesA_some hl]
    · cases h
theorem buildA_some {P : Program} {σ : Sig} {t : TypeId} {ps : List (Nat × Value)} {ps' : Array (Nat × Value)} {v : Value} (h : buildA P t ps = some v) (hp : PR σ ps ps'.toList) : ∃ cs, P.built t ps'.toList = some cs ∧ VR σ v (.agg cs) := by
  unfold buildA at h
  split at h
  · rename_i z hz
    obtain ⟨i, zv, hi, hzv, rfl, hpl⟩ := zeroA_some hz
    have hzz : LR σ zv.cells.toList zv.cells.toList := LR.refl_plain hpl
    split at h
    · rename_i fs hU
      split at h
      · rename_i pl hpls
        split at h
        · rename_i l hl
          cases h
          obtain ⟨cs, h1, h2⟩ := filled_some hl hp hzz
          refine ⟨cs, ?_, .agg h2.toArray.1 (by simpa using h2.toArray.2)⟩
          have : (fun (i : Nat) => (pl.toArray : Array (Nat × Nat))[i]?) = fun i => pl[i]? := by funext i; simp
          simp only [Program.built, hi, hU, hzv, placesA_some hpls, this, h1]
        · cases h
      · cases h
    · rename_i n e hU
      split at h
      · rename_i n hn
        obtain ⟨ie, hie, rfl⟩ := szA_info hn
        split at h
        · rename_i l hl
          cases h
          obtain ⟨cs, h1, h2⟩ := filled_some hl hp hzz
          refine ⟨cs, ?_, .agg h2.toArray.1 (by simpa using h2.toArray.2)⟩
          simp only [Program.built, hi, hU, hzv, hie, h1]
        · cases h
      · cases h
    · cases h
  · cases h
theorem s_build (P : Program) (t : TypeId) (parts : Array (Nat × Operand)) : OpS P (.build t parts) (xBuild P t parts.toList).f := by
  intro fr sup h r x hf
  have x' : oBuild P t ((partsX parts.toList).f fr) sup h = some r := x
  unfold oBuild at x'
  split at x'
  · rename_i l hl
    obtain ⟨v, hv, rfl⟩ := pureO_some x'
    refine ⟨abs_pure _ _ _ _, fun o ho σ a w hx hr hd hg K Q hK => ?_⟩
    have hp := partsX_some (σ := σ) (a := a) hl (fun p hp => hx p.2 (by simp only [Op.operands]; simp; exact ⟨p.1, by simpa using hp⟩))
    obtain ⟨cs, h1, h2⟩ := buildA_some (ps' := parts.map fun (i, x) => (i, a.eval x)) hv (by simpa using hp)
    refine wp_value (v := .agg cs) (w' := w) ?_ (hK _ _ (post_pure hd h2))
    simp only [execOp, ho, Sem.run_bind, run_build w t _ cs h1, Result.andThen_ok, Sem.run_pure]
  · cases x'
theorem s_buildSlice (P : Program) (t : TypeId) (len : Nat) (parts : Array (Nat × Operand)) : OpS P (.buildSlice t len parts) (xBuildSlice P t len parts.toList).f := by
  intro fr sup h r x hf
  have x' : oBuildSlice P t len ((partsX parts.toList).f fr) sup h = some r := x
  unfold oBuildSlice at x'
  split at x'
  · rename_i l hl
    unfold buildSliceA at x'
    split at x'
    · rename_i e hU
      split at x'
      · rename_i n z hn hz
        split at x'
        · rename_i hc
          obtain ⟨c1, c2, c3⟩ := hc
          split at x'
          · rename_i vs hvs
            obtain rfl := newA_some x'
            obtain ⟨i, zv, hi, hzv, rfl, hpl⟩ := zeroA_some hz
            refine ⟨abs_new _ _ _ _ _, fun o ho σ a w hx hr hd hg K Q hK => ?_⟩
            have hp := partsX_some (σ := σ) (a := a) hl (fun p hp => hx p.2 (by simp only [Op.operands]; simp; exact ⟨p.1, by simpa using hp⟩))
            have hsz : zv.cells.size = n := by simpa using c2
            obtain ⟨cs, h1, h2⟩ := filled_some (cs := (zerosOf zv.cells.toList len).toArray) hvs hp (LR.refl_plain (zerosOf_plain hpl len))
            refine wp_value (v := .slice (some ⟨w.heap.size, 0, none⟩) len len) (w' := w.alloc (.cells cs e)) ?_ (hK _ _ (post_row hd h2 hr (Nat.le_refl _) rfl))
            have hrow : (Array.range (len * n)).map (zv.cells[· % zv.cells.size]!) = (zerosOf zv.cells.toList len).toArray := by
              rw [← hsz]; exact zerosOf_made zv.cells len (by omega)
            have hrun : (Instr.buildSlice t len (parts.map fun (i, x) => (i, a.eval x))).run P w = .ok (.slice (some ⟨w.heap.size, 0, none⟩) len len) (w.alloc (.cells cs e)) := by
              have hnot : ¬ (len * n > 2 ^ 24) := by
                have : (2 : Nat) ^ 24 = 16777216 := by decide
                omega
              have h1' : Instr.fill (fun i => some (i * n, n)) (zerosOf zv.cells.toList len).toArray (parts.map fun (i, x) => (i, a.eval x)).toList = some cs := by
                rw [← h1]; simp
              simp only [Instr.buildSlice, Sem.run_bind, run_underlying hU, Result.andThen_ok, szA_run hn, if_neg hnot, Sem.run_pure]
              by_cases h0 : len * n = 0
              · rw [if_pos h0]
                simp only [Sem.run_bind, Sem.run_pure, Result.andThen_ok]
                have hrow0 : (Array.range (len * n)).map ((#[] : Array Value)[· % (#[] : Array Value).size]!) = (zerosOf zv.cells.toList len).toArray := by
                  rw [← hrow, h0]; simp
                rw [hrow0, h1']
                simp [newRow]
              · rw [if_neg h0]
                have hzr : (zeroValue e).run P w = .ok zv w := by simp [zeroValue, typeInfo, hi, hzv]
                simp only [Sem.run_bind, Sem.run_pure, hzr, Result.andThen_ok]
                rw [hrow, h1']
                simp [newRow]
            simp only [execOp, ho, Sem.run_bind, hrun, Result.andThen_ok, Sem.run_pure]
          · cases x'
        · cases x'
      · cases x'
    · cases x'
  · cases x'
end Go.Ev
