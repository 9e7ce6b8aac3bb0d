import Derived.Test.YthdpmpfchmcklaaGreatDoorEvOp7
namespace Go.Ev
open Go.RowKit

theorem LR.of_nil {σ : Sig} {l' : List Value} (h : LR σ [] l') : l' = [] := List.eq_nil_of_length_eq_zero (by simpa using h.1.symm)
theorem args_one {σ : Sig} {args : Array Operand} {a : Act} {u : Value} (h : LR σ [u] (args.toList.map a.eval)) : ∃ u', args.map a.eval = #[u'] ∧ VR σ u u' := by
  obtain ⟨u', d, e, hu, hr⟩ := h.head
  rw [hr.of_nil] at e
  exact ⟨u', by apply Array.ext'; simpa using e, hu⟩
theorem args_two {σ : Sig} {args : Array Operand} {a : Act} {u v : Value} (h : LR σ [u, v] (args.toList.map a.eval)) : ∃ u' v', args.map a.eval = #[u', v'] ∧ VR σ u u' ∧ VR σ v v' := by
  obtain ⟨u', d, e, hu, hr⟩ := h.head
  obtain ⟨v', d', e', hv, hr'⟩ := hr.head
  rw [hr'.of_nil] at e'
  subst e'
  exact ⟨u', v', by apply Array.ext'; simpa using e, hu, hv⟩
theorem toList_two {α : Type} {ts : Array α} {a b : α} (h : ts.toList = [a, b]) : ts = #[a, b] := by apply Array.ext'; simpa using h

theorem src0_real {P : Program} {σ : Sig} {h : Heap} {x x' : Value} {n : Nat} {l : List Value} {fx : List Nat} (e : srcA h x 0 n = some (l, fx)) (hx : VR σ x x') (w : World) : (Builtin.firstCells n 0 x').run P w = .ok ([] : List Value).toArray w := by
  unfold srcA at e
  split at e
  · rw [hx.of_plain (by rfl)]; simp [Builtin.firstCells]
  · obtain ⟨ad', c', e1⟩ := hx.some_slice
    rw [e1]
    exact run_firstCells_some (P := P) w n 0 ad' _ c' [] (by simp) (by simp)
  · rename_i s0
    rw [hx.of_plain (by rfl)]
    simp only [Builtin.firstCells, Sem.run_pure]
    congr 1
    apply Array.ext'
    obtain ⟨⟨d⟩⟩ := s0
    simp [ByteArray.data_extract]
  · cases e
/-- What a call of a built-in function does: values in, a value out. -/
def BfS (P : Program) (b : Builtin) (ts : Array TypeId) (args : List Value) (sup : Nat) (h : Heap) (r : R) : Prop :=
  Abs sup h r ∧ ∀ (σ : Sig) (args' : List Value) (w : World) (ty : TypeId) (cs : Array Bool), LR σ args args' → HR (inFt r.ft) σ h w → Dom σ sup →
    ∃ v' w', (builtin b ts ty cs args'.toArray).run P w = .ok (.value v') w' ∧ Post σ sup r w v' w'
theorem bf_append {P : Program} {ts : Array TypeId} {s x : Value} {sup : Nat} {h : Heap} {r : R} (hf : HF h sup) (e : appendA P ts.toList s x sup h = some r) : BfS P .append ts [s, x] sup h r := by
  unfold appendA at e
  split at e
  · rename_i t tx base len cap hts
    rw [toList_two hts]
    split at e
    · rename_i el hU
      split at e
      · rename_i i z m hi hz hm
        split at e
        · rename_i news fx hsrc
          have ce := cond_some e; clear e; obtain ⟨hc, e⟩ := ce
          simp only [Bool.and_eq_true, Nat.beq_eq, Nat.blt_eq, Nat.ble_eq, List.all_eq_true] at hc
          obtain ⟨⟨⟨⟨⟨c1, c2⟩, c3⟩, c4⟩, c5⟩, c6⟩ := hc
          have htx := okSrc_type c1 hU
          obtain ⟨i', zv, hi', hzv, rfl, hpl⟩ := zeroA_some hz
          rw [hi] at hi'; cases hi'
          have hzs : zv.cells.size = i.size := by simpa using c2
          have h4 : (len + m) * (i.bytes + 1) = (len + m) * i.bytes + (len + m) := Nat.mul_succ _ _
          have hrestLen : ∀ n, (Builtin.zeroCells zv.cells n).toList.length = n * i.size := by
            intro n; rw [zeroCells_made _ _ (by omega), zerosOf_length]; simp [hzs]
          -- the growing arm, real
          have grow : ∀ (σ : Sig) (x' : Value) (w : World) (ty : TypeId) (base' : Option Addr) (cap' : Nat) (olds olds' news' : List Value) (h1 : Heap) (wr ft : List Nat), VR σ x x' → LR σ news news' →
              (∀ w', w'.heap = w.heap → (Builtin.firstCells i.size m x').run P w' = .ok news'.toArray w') → LR σ olds olds' → (∀ w', w'.heap = w.heap → (Builtin.firstCells i.size len (.slice base' len cap')).run P w' = .ok olds'.toArray w') →
              olds.length = len * i.size → cap' < len + m → Dom σ sup → HR (inFt (some ft)) σ h w → (∀ b k, b ≠ sup → h1.get b = some k → h.get b = some k) →
              ∃ v' w', (Builtin.append_ #[t, tx] ty #[.slice base' len cap', x']).run P w = .ok v' w' ∧
                Post σ sup ⟨.slice (some ⟨sup, 0, none⟩) (len + m) (len + m), sup + 1, h1.put sup (some ⟨wrN (olds ++ news) .nil 0, (olds ++ news).length, el, i.size⟩), wr, some ft⟩ w v' w' := by
            intro σ x' w ty base' cap' olds olds' news' h1 wr ft hx hnews hfn hol hfo hln hg hd hr hh
            have hrun := app_grow (P := P) w t tx ty el i zv hU htx hi hzv base' len cap' olds' hfo x' m news' (fun w' => lenA_real hm hx w') hfn hg (by omega) (growslice_fits hg (by omega))
            refine ⟨_, _, hrun, ?_⟩
            have hge := grownCap_ge w (len + m) cap' el
            have hap : LR σ (olds ++ news) (olds' ++ news') := hol.append hnews
            have hl1 : (olds ++ news).length = (len + m) * i.size := by rw [List.length_append, hln, c5, Nat.add_mul]
            refine post_push (esz := i.size) (ext := grownCap w (len + m) cap' el - (len + m)) (rest := (Builtin.zeroCells zv.cells (grownCap w (len + m) cap' el - (len + m))).toList) (fz := (0, 0)) hd hap ?_ (fun i _ => by simp)
              (hrestLen _) (fun h => by omega) (fun _ => rfl) ⟨rfl, rfl, rfl⟩ hh hr ?_
            · show w.heap.push _ = w.heap.push _
              congr 1
              congr 1
              apply Array.ext'
              simp
            · have := VR.slice (o := 0) (n := len + m) (c := len + m) (c' := grownCap w (len + m) cap' el)
                (sigPut_at σ sup ⟨w.heap.size, 0, (olds ++ news).length, i.size, grownCap w (len + m) cap' el - (len + m)⟩) (Nat.le_refl _) (.inr ⟨by simp only [hl1]; omega, by simp only; omega⟩)
              simpa using this
          have srcR : ∀ (σ : Sig) (x' : Value) (w : World), VR σ x x' → (∀ b, b ∈ fx → ∀ mm k, σ b = some mm → h.get b = some k → BR σ mm k w) →
              ∃ l', LR σ news l' ∧ ∀ w', w'.heap = w.heap → (Builtin.firstCells i.size m x').run P w' = .ok l'.toArray w' :=
            fun σ x' w hx hr => srcA_real hsrc hm (Nat.le_refl _) hx hr
          have done : ∀ {v' : Value} {w w' : World} {ty : TypeId} {cs : Array Bool} {s' x' : Value}, (Builtin.append_ #[t, tx] ty #[s', x']).run P w = .ok v' w' → (builtin .append #[t, tx] ty cs [s', x'].toArray).run P w = .ok (.value v') w' := by
            intro v' w w' ty cs s' x' hrun
            simp [builtin, hrun]
          split at e
          · -- a nil slice
            have ce := cond_some e; clear e; obtain ⟨hz0, e⟩ := ce
            simp only [Bool.and_eq_true, Nat.beq_eq] at hz0
            obtain ⟨rfl, rfl⟩ := hz0
            cases hm0 : Nat.beq m 0 with
            | true =>
              have hm0' : m = 0 := Nat.eq_of_beq_eq_true hm0
              subst hm0'
              rw [hm0] at e
              cases e
              refine ⟨abs_pure _ _ _ _, fun σ args' w ty cs ha hr hd => ?_⟩
              obtain ⟨s', d, rfl, hs, ha2⟩ := ha.head
              obtain ⟨x', d', rfl, hx, ha3⟩ := ha2.head
              obtain rfl := ha3.of_nil
              rw [hs.of_plain (by rfl)]
              have hl' := src0_real (P := P) hsrc hx w
              refine ⟨.slice none 0 0, w, done (app_nil (P := P) w t tx ty el i hU htx hi x' [] (fun w' => lenA_real hm hx w') hl'), post_pure hd (.plain rfl)⟩
            | false =>
              rw [hm0] at e
              have hm1 : 0 < m := by
                rcases Nat.eq_zero_or_pos m with h0 | h0
                · subst h0; simp at hm0
                · exact h0
              obtain rfl := newA_some e
              refine ⟨abs_new _ _ _ _ _, fun σ args' w ty cs ha hr hd => ?_⟩
              obtain ⟨s', d, rfl, hs, ha2⟩ := ha.head
              obtain ⟨x', d', rfl, hx, ha3⟩ := ha2.head
              obtain rfl := ha3.of_nil
              rw [hs.of_plain (by rfl)]
              obtain ⟨news', hn1, hn2⟩ := srcR σ x' w hx (fun b hb mm k e1 e2 => hr.blk b mm k hb e1 e2)
              obtain ⟨v', w', h1, h2⟩ := grow σ x' w ty none 0 [] [] news' h [] fx hx hn1 hn2 LR.nil (fun w' _ => by simp [Builtin.firstCells]) (by simp) (by omega) hd hr (fun _ _ _ h => h)
              refine ⟨v', w', done h1, ?_⟩
              simpa using h2
          · -- a slice that is there
            rename_i b o
            cases hroom : Nat.ble (len + m) cap with
            | true =>
              rw [hroom] at e
              simp only [cond] at e
              have hroom' : len + m ≤ cap := by simpa using hroom
              cases hm0 : Nat.beq m 0 with
              | true =>
                have hm0' : m = 0 := Nat.eq_of_beq_eq_true hm0
                subst hm0'
                rw [hm0] at e
                cases e
                refine ⟨abs_pure _ _ _ _, fun σ args' w ty cs ha hr hd => ?_⟩
                obtain ⟨s', d, rfl, hs, ha2⟩ := ha.head
                obtain ⟨x', d', rfl, hx, ha3⟩ := ha2.head
                obtain rfl := ha3.of_nil
                obtain ⟨ad', c', e1⟩ := hs.some_slice
                rw [e1] at hs ⊢
                have hcc : cap ≤ c' := by
                  obtain ⟨_, _, _, _, e2, _, h2, _⟩ := hs.of_slice
                  cases e2; exact h2
                have hx0 := src0_real (P := P) hsrc hx w
                refine ⟨.slice (some ad') (len + 0) c', w, done (app_room (P := P) w t tx ty el i hU htx hi ad' len c' x' 0 [] (fun w' => lenA_real hm hx w') hx0 (by omega) w (by simp [storeCells])), post_pure hd (by simpa using hs)⟩
              | false =>
                rw [hm0] at e
                simp only [cond] at e
                have hm1 : m ≠ 0 := by intro h0; subst h0; simp at hm0
                split at e
                · rename_i h' hw
                  cases e
                  obtain ⟨k, hk, hle, h1, rfl⟩ := wrt_some hw
                  refine ⟨abs_write hf hk (by simp), fun σ args' w ty cs ha hr hd => ?_⟩
                  obtain ⟨s', d, rfl, hs, ha2⟩ := ha.head
                  obtain ⟨x', d', rfl, hx, ha3⟩ := ha2.head
                  obtain rfl := ha3.of_nil
                  obtain ⟨mm, o', c', hσ, e1, q1, q2, q3⟩ := hs.of_slice
                  rcases q3 with ⟨rfl, q3⟩ | ⟨z1, z2, z3⟩
                  · obtain ⟨news', hn1, hn2⟩ := srcR σ x' w hx (fun b' hb mm k e1 e2 => hr.blk b' mm k (by simp [inFt, hb]) e1 e2)
                    have hB := hr.blk b mm k (by simp [inFt]) hσ hk
                    have hst := store_run (P := P) hB (o := o + len * i.size) (vs' := news') (by rw [← hn1.1]; exact hle) (hn1.one h1)
                    rw [e1]
                    refine ⟨.slice (some ⟨mm.blk, mm.sh + o, none⟩) (len + m) c', w.setCells mm.blk (mm.sh + (o + len * i.size)) news', done ?_, post_write hd hr (by simp) hσ hk hle hn1 (.slice hσ (by omega) q3)⟩
                    exact app_room (P := P) w t tx ty el i hU htx hi ⟨mm.blk, mm.sh + o, none⟩ len c' x' m news' (fun w' => lenA_real hm hx w') (hn2 w rfl) (by omega) _ (by rw [Addr.add_lit, Nat.add_assoc]; exact hst)
                  · omega
                · cases e
            | false =>
              rw [hroom] at e
              simp only [cond] at e
              have hroom' : cap < len + m := by
                have : ¬ (len + m ≤ cap) := by rw [← Nat.ble_eq, hroom]; simp
                omega
              split at e
              · rename_i olds hol
                -- what was there
                have oldR : ∀ (σ : Sig) (w : World) (ad : Addr) (c' : Nat), VR σ (.slice (some ⟨b, o, none⟩) len cap) (.slice (some ad) len c') → (∀ mm k, σ b = some mm → h.get b = some k → BR σ mm k w) →
                    ∃ olds', LR σ olds olds' ∧ olds.length = len * i.size ∧ ∀ w', w'.heap = w.heap → (Builtin.firstCells i.size len (.slice (some ad) len c')).run P w' = .ok olds'.toArray w' := by
                  intro σ w ad c' hs hr
                  cases hl0 : Nat.beq len 0 with
                  | true =>
                    have hl0' : len = 0 := Nat.eq_of_beq_eq_true hl0
                    subst hl0'
                    rw [hl0] at hol
                    cases hol
                    exact ⟨[], LR.nil, by simp, fun w' _ => run_firstCells_some (P := P) w' i.size 0 ad 0 c' [] (by simp) (by simp)⟩
                  | false =>
                    have hl1 : len ≠ 0 := by intro h0; subst h0; simp at hl0
                    rw [hl0] at hol
                    simp only [cond] at hol
                    obtain ⟨mm, o', c2, hσ, e1, q1, q2, q3⟩ := hs.of_slice
                    cases e1
                    rcases q3 with ⟨rfl, q3⟩ | ⟨z1, z2, z3⟩
                    · obtain ⟨l', h1, h2, h3, h4, _⟩ := rd_run (P := P) hol hσ (fun k hk => hr mm k hσ hk)
                      refine ⟨l', h1, h2, fun w' hw' => ?_⟩
                      exact run_firstCells_some (P := P) w' i.size len ⟨mm.blk, mm.sh + o, none⟩ len c' l' h3 (fun j v hv => by
                        rw [Addr.add_lit]
                        have := h4 j v hv
                        simpa [World.cell?, hw'] using this)
                    · exact absurd z1 hl1
                cases hmg : mayGrow h b o cap with
                | false =>
                  rw [hmg] at e
                  simp only [cond] at e
                  obtain rfl := newA_some e
                  refine ⟨abs_new _ _ _ _ _, fun σ args' w ty cs ha hr hd => ?_⟩
                  obtain ⟨s', d, rfl, hs, ha2⟩ := ha.head
                  obtain ⟨x', d', rfl, hx, ha3⟩ := ha2.head
                  obtain rfl := ha3.of_nil
                  obtain ⟨mm, o', c', hσ, e1, q1, q2, q3⟩ := hs.of_slice
                  rw [e1] at hs ⊢
                  obtain ⟨news', hn1, hn2⟩ := srcR σ x' w hx (fun b' hb mm k e1 e2 => hr.blk b' mm k (by simp [inFt, hb]) e1 e2)
                  obtain ⟨olds', ho1, ho2, ho3⟩ := oldR σ w _ c' hs (fun mm k e1 e2 => hr.blk b mm k (by simp [inFt]) e1 e2)
                  have hcc : c' < len + m := by
                    unfold mayGrow at hmg
                    split at hmg
                    · rename_i cs0 ln0 e0 g0 hk
                      obtain ⟨rs, fz, hh, hasz, hrz, hg1, hg2, _⟩ := hr.blk b mm _ (by simp [inFt]) hσ hk
                      simp only at hg1 hg2 hasz
                      rcases q3 with ⟨_, h5 | ⟨h5, h6⟩⟩ | ⟨z1, z2, z3⟩
                      · omega
                      · by_cases hg0 : g0 = 0
                        · have := hg1 hg0; omega
                        · have hg3 := hg2 hg0
                          rw [Bool.and_eq_false_iff] at hmg
                          rcases hmg with hmg | hmg
                          · simp at hmg; exact absurd hmg hg0
                          · rw [hg3, hasz] at h5
                            rw [h5] at hmg
                            simp at hmg
                      · omega
                    · cases hmg
                  obtain ⟨v', w', h1, h2⟩ := grow σ x' w ty _ c' olds olds' news' h [] (b :: fx) hx hn1 hn2 ho1 ho3 ho2 hcc hd hr (fun _ _ _ h => h)
                  exact ⟨v', w', done h1, h2⟩
                | true =>
                  rw [hmg] at e
                  simp only [cond] at e
                  split at e
                  · rename_i cs0 ln0 e0 g0 hk
                    have ce := cond_some e; clear e; obtain ⟨hck, e⟩ := ce
                    simp only [Bool.and_eq_true, Nat.beq_eq] at hck
                    obtain ⟨rfl, rfl⟩ := hck
                    split at e
                    · rename_i v1 sup1 h1 wr1 ft1 hna
                      have hna' := newA_some hna
                      cases hna'
                      cases e
                      have habs : Abs sup h ⟨.slice (some ⟨sup, 0, none⟩) (len + m) (len + m), sup + 1, (h.put b none).put sup (some ⟨wrN (olds ++ news) .nil 0, (olds ++ news).length, el, i.size⟩), [b], some (b :: fx)⟩ := by
                        have hlt : b < sup := by
                          rcases Nat.lt_or_ge b sup with h1 | h1
                          · exact h1
                          · rw [hf b h1] at hk; cases hk
                        refine ⟨by simp, fun c hc hw => ?_, fun c hc => ?_, fun c hc => ?_, fun hf c hc => ?_⟩
                        · simp only [List.mem_singleton] at hw
                          simp only [T.get_put]; rw [if_neg (by omega), if_neg hw]
                        · simp only [List.mem_singleton] at hc; subst hc; exact ⟨hlt, _, hk⟩
                        · simp only [List.mem_singleton] at hc; subst hc; simp [inFt]
                        · simp only [T.get_put] at hc ⊢
                          rw [if_neg (by omega), if_neg (by omega)]; exact hf c (by omega)
                      refine ⟨habs, fun σ args' w ty cs ha hr hd => ?_⟩
                      obtain ⟨s', d, rfl, hs, ha2⟩ := ha.head
                      obtain ⟨x', d', rfl, hx, ha3⟩ := ha2.head
                      obtain rfl := ha3.of_nil
                      obtain ⟨mm, o', c', hσ, e1, q1, q2, q3⟩ := hs.of_slice
                      rw [e1] at hs ⊢
                      obtain ⟨news', hn1, hn2⟩ := srcR σ x' w hx (fun b' hb mm k e1 e2 => hr.blk b' mm k (by simp [inFt, hb]) e1 e2)
                      obtain ⟨olds', ho1, ho2, ho3⟩ := oldR σ w _ c' hs (fun mm k e1 e2 => hr.blk b mm k (by simp [inFt]) e1 e2)
                      by_cases hcc : c' < len + m
                      · obtain ⟨v', w', h1, h2⟩ := grow σ x' w ty _ c' olds olds' news' (h.put b none) [b] (b :: fx) hx hn1 hn2 ho1 ho3 ho2 hcc hd hr (fun c k _ hck => by
                          rw [T.get_put] at hck
                          split at hck
                          · cases hck
                          · exact hck)
                        exact ⟨v', w', done h1, h2⟩
                      · have hB := hr.blk b mm _ (by simp [inFt]) hσ hk
                        obtain ⟨rs, fz, hh, hasz, hrz, hg1, hg2, hcell, _⟩ := id hB
                        simp only at hg1 hg2 hasz
                        rcases q3 with ⟨rfl, h5 | ⟨h5, h6⟩⟩ | ⟨z1, z2, z3⟩
                        · omega
                        · have hes : mm.esz = i.size := hg2 (by omega)
                          subst h6
                          have e3 : (len + m) * mm.esz ≤ (cap + mm.ext) * mm.esz := Nat.mul_le_mul_right _ (by omega)
                          have e4 : (cap + mm.ext) * mm.esz = cap * mm.esz + mm.ext * mm.esz := Nat.add_mul _ _ _
                          have e5 : (len + m) * mm.esz = len * mm.esz + m * mm.esz := Nat.add_mul _ _ _
                          have e6 : news'.length = m * i.size := by rw [← hn1.1, c5]
                          have e7 : len * i.size + m * i.size ≤ cap * mm.esz + mm.ext * mm.esz := by rw [← hes, ← e5, ← e4]; exact e3
                          have e8 : ∀ j, j < news'.length → o + len * i.size + j < ln0 + mm.ext * mm.esz := by intro j hj; omega
                          have hst := run_storeCells_cells (P := P) mm.blk (mm.sh + o + len * i.size) news' 0 w
                            (fun j hj => by have := (hB.there (i := o + len * i.size + j) (e8 j hj)).1; simpa [Nat.add_assoc] using this)
                            (fun j hj => by have := (hB.there (i := o + len * i.size + j) (e8 j hj)).2; simpa [Nat.add_assoc] using this) (hn1.one c6)
                          refine ⟨.slice (some ⟨mm.blk, mm.sh + o, none⟩) (len + m) (cap + mm.ext), w.setCells mm.blk (mm.sh + o + len * i.size) news', done ?_, ?_⟩
                          · exact app_room (P := P) w t tx ty el i hU htx hi ⟨mm.blk, mm.sh + o, none⟩ len _ x' m news' (fun w' => lenA_real hm hx w') (hn2 w rfl) (by omega) _ (by rw [Addr.add_lit]; simpa using hst)
                          · have hgetold : ∀ j, j < olds.length → (cs0.get (o + j)) = olds[j]? := by
                              cases hl0 : Nat.beq len 0 with
                              | true =>
                                rw [hl0] at hol; cases hol; intro j hj; simp at hj
                              | false =>
                                rw [hl0] at hol
                                obtain ⟨k0, hk0, _, hl2, hget⟩ := rd_some (show rd h b o (len * i.size) = some olds from hol)
                                rw [hk] at hk0; cases hk0
                                intro j hj
                                exact hget j (by omega)
                            exact post_inplace (k := ⟨cs0, ln0, el, i.size⟩) (cap := cap) hd hr (by simp) hσ hk hes (by omega) h5 (by omega) hroom' (by omega) ho2 hgetold c5 hn1
                        · omega
                    · cases e
                  · cases e
              · cases e
          · cases e
        · cases e
      · cases e
    · cases e
  · cases e
end Go.Ev
