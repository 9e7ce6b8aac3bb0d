import Derived.Test.YthdpmpfchmcklaaGreatDoorEvOp
namespace Go.Ev
open Go.RowKit

/-! #### slice -/
theorem evOX_some {σ : Sig} {fr : Frm} {a : Act} {x : Option Operand} {v : Option Value} (h : (evOX x).f fr = some v) (hx : ∀ y, x = some y → EvS σ fr a y) :
    (x = none ∧ v = none) ∨ ∃ u, v = some u ∧ (x.map a.eval).isSome = true ∧ (plain u = true → x.map a.eval = some u) := by
  cases x with
  | none => cases h; exact .inl ⟨rfl, rfl⟩
  | some y =>
    right
    have h' : someO ((evX y).f fr) = some v := h
    unfold someO at h'
    split at h'
    · rename_i u hu
      cases h'
      exact ⟨u, rfl, rfl, fun hp => congrArg some ((hx y rfl u hu).of_plain hp)⟩
    · cases h'
theorem bound_some {v : Option Value} {d n : Nat} (h : bound v d = some n) : (v = none ∧ n = d) ∨ ∃ k, v = some (.int k (n : Int)) := by
  unfold bound at h
  split at h
  · cases h; exact .inl ⟨rfl, rfl⟩
  · obtain ⟨k, rfl⟩ := toNatA_some h; exact .inr ⟨k, rfl⟩
theorem sliceBound_run {P : Program} (k : IntKind) (i y : Nat) (c : BoundsCode) (h : i ≤ y) (w : World) : (Instr.sliceBound (.int k (i : Int)) y c).run P w = .ok i w := by
  simp [Instr.sliceBound, asIntOf, h]
theorem bounds_run {P : Program} {lo hi mx : Option Value} {len cap cap' l h m : Nat} (e : bounds lo hi mx len cap = some (l, h, m)) (hc : cap ≤ cap') :
    l ≤ h ∧ h ≤ m ∧ m ≤ cap ∧ (mx = none → m = cap) ∧ ∀ b w, (Instr.sliceBounds b len cap' lo hi mx).run P w = .ok (l, h, if mx.isSome then m else cap') w := by
  unfold bounds at e
  split at e
  · rename_i m0 h0 l0 hm hh hl
    obtain ⟨hcond, hv⟩ := cond_some e
    cases hv
    simp only [Bool.and_eq_true, Nat.ble_eq, Bool.not_eq_true'] at hcond
    obtain ⟨⟨⟨h1, h2⟩, h3⟩, h4⟩ := hcond
    have hmx : mx = none → m = cap := by
      intro hn; subst hn; cases hm; rfl
    refine ⟨h1, h2, h3, hmx, fun b w => ?_⟩
    rcases bound_some hm with ⟨rfl, rfl⟩ | ⟨km, rfl⟩
    · have h2' : h ≤ cap' := by omega
      rcases bound_some hh with ⟨rfl, rfl⟩ | ⟨kh, rfl⟩ <;> rcases bound_some hl with ⟨rfl, rfl⟩ | ⟨kl, rfl⟩ <;>
        simp [Instr.sliceBounds, sliceBound_run, h1, h2'] <;> (try rw [sliceBound_run _ _ _ _ (by assumption)]) <;> simp [sliceBound_run, h1, h2']
    · have h3' : m ≤ cap' := by omega
      rcases bound_some hh with ⟨rfl, rfl⟩ | ⟨kh, rfl⟩
      · simp at h4
      · rcases bound_some hl with ⟨rfl, rfl⟩ | ⟨kl, rfl⟩ <;> simp [Instr.sliceBounds, sliceBound_run, h1, h2, h3']
  · cases e
theorem bounds_map {σ : Sig} {fr : Frm} {a : Act} {x : Option Operand} {v : Option Value} {d n : Nat} (h : (evOX x).f fr = some v) (hx : ∀ y, x = some y → EvS σ fr a y) (hb : bound v d = some n) : x.map a.eval = v := by
  rcases evOX_some h hx with ⟨rfl, rfl⟩ | ⟨u, rfl, h1, h2⟩
  · rfl
  · rcases bound_some hb with ⟨h0, _⟩ | ⟨k, hk⟩
    · cases h0
    · cases hk; exact h2 rfl
theorem bounds_parts {lo hi mx : Option Value} {len cap : Nat} {r : Nat × Nat × Nat} (e : bounds lo hi mx len cap = some r) : (∃ n, bound mx cap = some n) ∧ (∃ n, bound hi len = some n) ∧ ∃ n, bound lo 0 = some n := by
  unfold bounds at e
  split at e
  · rename_i h1 h2 h3; exact ⟨⟨_, h1⟩, ⟨_, h2⟩, ⟨_, h3⟩⟩
  · cases e
theorem s_slice (P : Program) (t : TypeId) (x : Operand) (lo hi mx : Option Operand) : OpS P (.slice t x lo hi mx) (xSlice P t x lo hi mx).f := by
  intro fr sup h r e hf
  have e' : oSlice P t ((evX x).f fr) ((evOX lo).f fr) ((evOX hi).f fr) ((evOX mx).f fr) sup h = some r := e
  unfold oSlice at e'
  split at e'
  · rename_i xv lv hv mv hxv hlv hhv hmv
    have abs : Abs sup h r := by
      unfold sliceR at e'
      split at e'
      · cases e'; exact abs_pure _ _ _ _
      · obtain ⟨_, hr⟩ := cond_some e'; cases hr; exact abs_pure _ _ _ _
      · cases e'
    refine ⟨abs, fun o' ho σ a w hx hr hd hg K Q hK => ?_⟩
    have hox : EvS σ fr a x := hx x (by simp [Op.operands])
    have hol : ∀ y, lo = some y → EvS σ fr a y := fun y hy => hx y (by subst hy; simp [Op.operands])
    have hoh : ∀ y, hi = some y → EvS σ fr a y := fun y hy => hx y (by subst hy; simp [Op.operands])
    have hom : ∀ y, mx = some y → EvS σ fr a y := fun y hy => hx y (by subst hy; simp [Op.operands])
    have h1 := hox _ hxv
    suffices hs : ∃ v', (Instr.sliceAt t (a.eval x) (lo.map a.eval) (hi.map a.eval) (mx.map a.eval)).run P w = .ok v' w ∧ VR σ r.v v' ∧ r = ⟨r.v, sup, h, [], r.ft⟩ by
      obtain ⟨v', hrun, hvr, hreq⟩ := hs
      refine wp_value (v := v') (w' := w) (by simp [execOp, ho, hrun]) (hK _ _ ?_)
      have hft : HR (fun b => inFt r.ft b ∨ sup ≤ b) σ h w := hr_or hd hr
      refine ⟨σ, ?_, hvr, ?_⟩
      · rw [hreq]; exact Tr.refl _ _ _ _
      · rw [hreq] at hft ⊢; exact hft
    unfold sliceR at e'
    split at e'
    · rename_i v hsl
      cases e'
      unfold sliceA at hsl
      split at hsl
      · -- string
        rename_i s hU
        split at hsl
        · rename_i l hh m hb
          split at hsl
          · cases hsl
          · rename_i hnm
            cases hsl
            obtain ⟨⟨_, p1⟩, ⟨_, p2⟩, ⟨_, p3⟩⟩ := bounds_parts hb
            have hm0 : mx.map a.eval = none := by
              rcases evOX_some hmv hom with ⟨rfl, rfl⟩ | ⟨u, rfl, _, _⟩
              · rfl
              · simp at hnm
            rw [hm0, bounds_map hlv hol p3, bounds_map hhv hoh p2, h1.of_plain (by rfl)]
            obtain ⟨b1, b2, b3, _, hrun⟩ := bounds_run (P := P) hb (Nat.le_refl _)
            refine ⟨.string (s.extract l hh), ?_, ?_, rfl⟩
            · simp [Instr.sliceAt, Instr.slice, run_underlying hU, hrun]
            · have e3 : s.extract l hh = ⟨⟨(s.data.toList.drop l).take (hh - l)⟩⟩ := by
                obtain ⟨⟨d⟩⟩ := s
                apply ByteArray.ext
                apply Array.ext'
                simp [ByteArray.data_extract, Array.toList_extract, List.extract]
              rw [e3]; exact .plain rfl
        · cases hsl
      · -- slice
        rename_i el ad len cap hU
        split at hsl
        · rename_i n l hh m hn hb
          obtain ⟨⟨_, p1⟩, ⟨_, p2⟩, ⟨_, p3⟩⟩ := bounds_parts hb
          rw [bounds_map hlv hol p3, bounds_map hhv hoh p2, bounds_map hmv hom p1]
          split at hsl
          · cases hsl
            obtain ⟨b1, b2, b3, b4, hrun⟩ := bounds_run (P := P) hb (Nat.le_refl _)
            rw [h1.of_plain (by rfl)]
            have hm' : (if mv.isSome then m else cap) = m := by
              cases mv with
              | none => simp [b4 rfl]
              | some _ => rfl
            rw [hm'] at hrun
            refine ⟨.slice none (hh - l) (m - l), ?_, .plain rfl, rfl⟩
            simp [Instr.sliceAt, Instr.slice, run_underlying hU, hrun, szA_run hn]
          · rename_i b o
            cases hc : (Nat.beq l 0 || mv.isSome) with
            | false => rw [hc] at hsl; simp [cond] at hsl
            | true =>
              rw [hc] at hsl
              simp only [cond, Option.some.injEq, Prod.mk.injEq, and_true] at hsl
              subst hsl
              obtain ⟨mm, o', c', hσ, e1, hle, hle', hcap⟩ := h1.of_slice
              obtain ⟨b1, b2, b3, b4, hrun⟩ := bounds_run (P := P) hb hle'
              rw [e1]
              generalize hM : (if mv.isSome then m else c') = M at hrun
              have hMm : m ≤ M := by
                subst hM
                cases mv with
                | none => have := b4 rfl; simp; omega
                | some _ => simp
              refine ⟨.slice (if M = l then some ⟨mm.blk, o', none⟩ else (some (⟨mm.blk, o', none⟩ : Addr)).map (·.add (l * n))) (hh - l) (M - l), ?_, ?_, rfl⟩
              · simp [Instr.sliceAt, Instr.slice, run_underlying hU, hrun, szA_run hn]
              · by_cases hMl : M = l
                · rw [if_pos hMl, show hh - l = 0 by omega, show m - l = 0 by omega, show M - l = 0 by omega]
                  exact .slice0 hσ
                · rw [if_neg hMl]
                  simp only [Option.map_some, Addr.add_lit]
                  rcases hcap with ⟨rfl, hcc⟩ | ⟨z1, z2, z3⟩
                  · rw [Nat.add_assoc]
                    refine .slice hσ (by omega) ?_
                    cases mv with
                    | some _ => simp at hM; omega
                    | none =>
                      simp at hM hc
                      have hmc := b4 rfl
                      subst hc
                      subst hM
                      rcases hcc with h5 | ⟨h5, h6⟩
                      · left; omega
                      · right; subst hmc; exact ⟨by simpa using h5, by omega⟩
                  · exfalso
                    have : M = 0 := by
                      subst hM
                      cases mv with
                      | none => simpa using z3
                      | some _ => simp; omega
                    omega
          · cases hsl
        · cases hsl
      · -- array
        rename_i c el b o hU
        split at hsl
        · rename_i n l hh m hn hb
          cases hsl
          obtain ⟨⟨_, p1⟩, ⟨_, p2⟩, ⟨_, p3⟩⟩ := bounds_parts hb
          rw [bounds_map hlv hol p3, bounds_map hhv hoh p2, bounds_map hmv hom p1]
          obtain ⟨mm, hσ, e1⟩ := h1.of_ptr
          obtain ⟨b1, b2, b3, b4, hrun⟩ := bounds_run (P := P) hb (Nat.le_refl _)
          have hm' : (if mv.isSome then m else c) = m := by
            cases mv with
            | none => simp [b4 rfl]
            | some _ => rfl
          rw [hm'] at hrun
          rw [e1]
          refine ⟨.slice (some (if m = l then ⟨mm.blk, mm.sh + o, none⟩ else (⟨mm.blk, mm.sh + o, none⟩ : Addr).add (l * n))) (hh - l) (m - l), ?_, ?_, rfl⟩
          · simp [Instr.sliceAt, run_underlying hU, Instr.sureAddr, hrun, szA_run hn]
          · by_cases hml : m = l
            · rw [if_pos hml, show hh - l = 0 by omega, show m - l = 0 by omega]
              exact .slice0 hσ
            · rw [if_neg hml, Addr.add_lit, Nat.add_assoc]
              exact .slice hσ (by omega) (.inl rfl)
        · cases hsl
      · cases hsl
    · -- with a look at the heap
      rename_i v b0 n0 hsl
      obtain ⟨hfit, hre⟩ := cond_some e'
      cases hre
      unfold sliceA at hsl
      split at hsl
      · split at hsl
        · split at hsl <;> simp at hsl
        · cases hsl
      · rename_i el ad len cap hU
        split at hsl
        · rename_i n l hh m hn hb
          obtain ⟨⟨_, p1⟩, ⟨_, p2⟩, ⟨_, p3⟩⟩ := bounds_parts hb
          rw [bounds_map hlv hol p3, bounds_map hhv hoh p2, bounds_map hmv hom p1]
          split at hsl
          · simp at hsl
          · rename_i b o
            cases hc : (Nat.beq l 0 || mv.isSome) with
            | true => rw [hc] at hsl; simp [cond] at hsl
            | false =>
              rw [hc] at hsl
              simp only [cond, Option.some.injEq, Prod.mk.injEq] at hsl
              obtain ⟨hv1, hv2, hv3⟩ := hsl
              subst hv1; subst hv2; subst hv3
              have hmn : mv = none := by
                cases mv with
                | none => rfl
                | some _ => simp at hc
              subst hmn
              obtain ⟨mm, o', c', hσ, e1, hle, hle', hcap⟩ := h1.of_slice
              obtain ⟨b1, b2, b3, b4, hrun⟩ := bounds_run (P := P) hb hle'
              have hmc := b4 rfl
              subst hmc
              simp only [Option.isSome_none, Bool.false_eq_true, if_false] at hrun
              rw [e1]
              have hext : c' = m ∨ (mm.esz = n ∧ o + m * mm.esz = mm.asz ∧ c' = m + mm.ext) ∨ (m = 0 ∧ c' = 0) := by
                rcases hcap with ⟨_, h5 | ⟨h5, h6⟩⟩ | ⟨z1, z2, z3⟩
                · exact .inl h5
                · unfold fits at hfit
                  split at hfit
                  · rename_i cs ln ee g hk
                    have hbr := hr.blk b mm _ (by simp [inFt]) hσ hk
                    obtain ⟨rs, fz, hb', ha, hrz, hg1, hg2, _⟩ := hbr
                    simp only [Bool.or_eq_true] at hfit
                    rcases hfit with hz | hz
                    · have := hg1 (Nat.eq_of_beq_eq_true hz)
                      left; omega
                    · have hz' := Nat.eq_of_beq_eq_true hz
                      simp only at hz' hg1 hg2
                      by_cases hg0 : g = 0
                      · left; have := hg1 hg0; omega
                      · right; left; exact ⟨(hg2 hg0).trans hz', h5, h6⟩
                  · cases hfit
                · exact .inr (.inr ⟨z2, z3⟩)
              refine ⟨.slice (if c' = l then some ⟨mm.blk, o', none⟩ else (some (⟨mm.blk, o', none⟩ : Addr)).map (·.add (l * n))) (hh - l) (c' - l), ?_, ?_, rfl⟩
              · simp [Instr.sliceAt, Instr.slice, run_underlying hU, hrun, szA_run hn]
              · by_cases hMl : c' = l
                · rw [if_pos hMl, show hh - l = 0 by omega, show m - l = 0 by omega, show c' - l = 0 by omega]
                  exact .slice0 hσ
                · rw [if_neg hMl]
                  simp only [Option.map_some, Addr.add_lit]
                  rcases hcap with ⟨rfl, _⟩ | ⟨z1, z2, z3⟩
                  · rw [Nat.add_assoc]
                    refine .slice hσ (by omega) ?_
                    rcases hext with h5 | ⟨h5, h6, h7⟩ | ⟨h5, h6⟩
                    · left; omega
                    · right
                      refine ⟨?_, by omega⟩
                      rw [h5] at h6 ⊢
                      have : l * n + (m - l) * n = m * n := by rw [← Nat.add_mul]; congr 1; omega
                      omega
                    · omega
                  · omega
          · cases hsl
        · cases hsl
      · split at hsl <;> simp at hsl
      · cases hsl
    · cases e'
  · cases e'
end Go.Ev
