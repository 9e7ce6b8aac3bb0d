import Derived.Test.YthdpmpfchmcklaaGreatDoorEvExec
namespace Go.Ev
open Go.RowKit

/-! ### Functions -/
theorem argsA_get : ∀ (l : List Value) (s : T Value) (i j : Nat), (argsA l s i).get j = if i ≤ j ∧ j < i + l.length then l[j - i]? else s.get j
  | [], s, i, j => by
    rw [if_neg (by simp only [List.length_nil]; omega)]; rfl
  | v :: r, s, i, j => by
    have hc : argsA (v :: r) s i = argsA r (s.put i (some v)) (i + 1) := by
      show (forceV v fun v => forceT (s.put i (some v)) fun s => forceN (i + 1) fun i => argsA r s i) = _
      simp only [forceV_eq, forceT_eq, forceN_eq]
    rw [hc, argsA_get r, T.get_put]
    by_cases h1 : i + 1 ≤ j ∧ j < i + 1 + r.length
    · rw [if_pos h1, if_pos (by simp; omega), show j - i = (j - (i + 1)) + 1 by omega]; simp
    · rw [if_neg h1]
      by_cases h2 : j = i
      · subst h2; rw [if_pos rfl, if_pos (by simp)]; simp
      · rw [if_neg h2, if_neg (by simp; omega)]
theorem enter_fr {σ : Sig} {args args' : List Value} (h : LR σ args args') (n : Nat) : FR σ ⟨max n args.length, argsA args .nil 0⟩ { tmps := args'.toArray ++ Array.replicate (n - args'.toArray.size) undef, defers := [] } := by
  have hl := h.1
  refine ⟨by simp; omega, fun t v hv => ?_⟩
  simp only at hv
  rw [argsA_get] at hv
  by_cases ht : t < args.length
  · rw [if_pos (by omega)] at hv
    obtain ⟨v', h1, h2⟩ := h.get (by simpa using hv : args[t]? = some v)
    refine ⟨v', ?_, h2⟩
    rw [Array.getElem?_append_left (by simp; omega)]
    simpa using h1
  · rw [if_neg (by omega)] at hv
    rw [T.get_nil] at hv; cases hv
def resF (a : Act) : ResultVar → Sem Value
  | .tmp t => pure (a.tmps.getD t undef)
  | .cell x t => do loadVar t (← asAddr (a.tmps.getD x undef))
theorem results_eq (fn : Func) (a : Act) : results fn a.tmps = (do
    let vs ← fn.results.mapM (resF a)
    pure (if h : vs.size = 1 then vs[0] else .tuple vs)) := by
  unfold results
  congr 1
theorem resG_run {P : Program} {σ : Sig} {fr : Frm} {sup : Nat} {h : Heap} {a : Act} {w : World} (st : St P σ fr sup h a w) : ∀ {l : List ResultVar} {vs : List Value}, resG P fr h l = some vs →
    ∃ vs', (l.mapM (resF a)).run P w = .ok vs' w ∧ LR σ vs vs'
  | [], vs, e => by
    cases e
    exact ⟨[], by simp, LR.nil⟩
  | .tmp t :: r, vs, e => by
    unfold resG at e
    split at e
    · rename_i v l hv hl
      cases e
      obtain ⟨v', h1, h2⟩ := st.fr.s t v hv
      obtain ⟨vs', h3, h4⟩ := resG_run st hl
      refine ⟨v' :: vs', ?_, h4.cons h2⟩
      have hx : a.tmps.getD t undef = v' := by simp [h1]
      rw [List.mapM_cons]
      simp only [resF, hx, Sem.run_bind, Sem.run_pure, Result.andThen_ok, h3]
    · cases e
  | .cell x t :: r, vs, e => by
    unfold resG at e
    split at e
    · rename_i b o l hv hl
      split at e
      · rename_i v hld
        cases e
        obtain ⟨p', h1, h2⟩ := st.fr.s x _ hv
        obtain ⟨m, hm, rfl⟩ := h2.of_ptr
        obtain ⟨vs', h3, h4⟩ := resG_run st hl
        obtain ⟨v', h5, h6⟩ := ldA_run (P := P) (w := w) hld hm (fun k hk => st.hr.blk b m k trivial hm hk)
        refine ⟨v' :: vs', ?_, h4.cons h6⟩
        have hx : a.tmps.getD x undef = .pointer (some ⟨m.blk, m.sh + o, none⟩) := by simp [h1]
        rw [List.mapM_cons]
        have hA : ∀ ad : Addr, asAddr (.pointer (some ad)) = pure ad := fun _ => rfl
        simp only [resF, hx, hA, Sem.run_bind, Sem.run_pure, Result.andThen_ok, h5, h3]
      · cases e
    · cases e
theorem resA_run {P : Program} {σ : Sig} {fn : Func} {fr : Frm} {sup : Nat} {h : Heap} {a : Act} {w : World} {v : Value} (st : St P σ fr sup h a w) (e : resA P fn fr h = some v) : ∃ v', (results fn a.tmps).run P w = .ok v' w ∧ VR σ v v' := by
  unfold resA at e
  have run : ∀ vs', (fn.results.toList.mapM (resF a)).run P w = .ok vs' w → (results fn a.tmps).run P w = .ok (if h : vs'.toArray.size = 1 then vs'.toArray[0] else .tuple vs'.toArray) w := by
    intro vs' hv
    rw [results_eq, Array.mapM_eq_mapM_toList]
    simp only [Sem.run_bind, Sem.run_map, hv, Result.andThen_ok, Sem.run_pure]
  split at e
  · rename_i u hu
    cases e
    obtain ⟨vs', h1, h2⟩ := resG_run st hu
    obtain ⟨u', d, rfl, hv, hr⟩ := h2.head
    obtain rfl := List.eq_nil_of_length_eq_zero (by simpa using hr.1.symm)
    refine ⟨u', ?_, hv⟩
    rw [run _ h1]; rfl
  · rename_i vs hne hvs
    cases e
    obtain ⟨vs', h1, h2⟩ := resG_run st hvs
    have hl : vs'.length ≠ 1 := by
      intro h3
      rw [← h2.1] at h3
      obtain ⟨x, hx⟩ := List.length_eq_one_iff.1 h3
      exact hne x hx
    refine ⟨.tuple vs'.toArray, ?_, .tuple h2.toArray.1 (by simpa using h2.toArray.2)⟩
    rw [run _ h1]
    simp [hl]
  · cases e
theorem fnX_ok {P : Program} {call : CallF} (hm : P.follows .mixedOrders = true) (hc : GoodC P call) (n : Nat) (f : FuncId) (args : List Value) (sup : Nat) (h : Heap) (r : R) (e : (fnX P f).f call n args sup h = some r) (hf : HF h sup) :
    Abs sup h r ∧ (∃ fn, P.funcs[f]? = some fn ∧ (fn.name == "runtime.NumGoroutine") = false ∧ fn.body.isNone = false) ∧
    ∀ (σ : Sig) (args' : List Value) (w : World), LR σ args args' → HR (inFt r.ft) σ h w → Dom σ sup → Gl P σ → Calls P f args'.toArray w (retPost fun v' w' => Post σ sup r w v' w') := by
  unfold fnX at e
  split at e
  · rename_i fn hfn
    split at e
    · rename_i c hb
      have hb1 : fn.name ≠ "runtime.NumGoroutine" ∧ fn.body = some c := by
        unfold bodyA at hb
        split at hb
        · cases hb
        · rename_i hne; exact ⟨hne, hb⟩
      have e' : endA P fn (enterA (codeX P c).f call n fn.ntmps args sup h) = some r := e
      unfold endA at e'
      split at e'
      · rename_i ex fr1 sup1 h1 lg1 ho
        unfold enterA at ho
        rw [forceT_eq] at ho
        obtain ⟨ax, wx⟩ := codeX_ok hm hc c n sup _ sup h _ ho hf (Nat.le_refl _)
        have fin : ∀ rv, resA P fn fr1 h1 = some rv → r = ⟨rv, sup1, h1, lg1, none⟩ → (ex = .normal ∨ ex = .ret) →
            Abs sup h r ∧ (∃ fn, P.funcs[f]? = some fn ∧ (fn.name == "runtime.NumGoroutine") = false ∧ fn.body.isNone = false) ∧
            ∀ (σ : Sig) (args' : List Value) (w : World), LR σ args args' → HR (inFt r.ft) σ h w → Dom σ sup → Gl P σ → Calls P f args'.toArray w (retPost fun v' w' => Post σ sup r w v' w') := by
          intro rv hv hr hex
          subst hr
          refine ⟨⟨ax.le, ax.same, ax.live, fun _ _ => trivial, ax.fresh⟩, ⟨fn, hfn, by simpa using hb1.1, by rw [hb1.2]; rfl⟩, fun σ args' w ha hr hd hg => ?_⟩
          refine calls_of_wp hfn hb1.2 (wp_mono (wx σ _ w ⟨enter_fr ha fn.ntmps, hr, hd, hg, rfl⟩) fun en a' w' hq => ?_)
          obtain ⟨q1, σ1, t1, st1⟩ := hq
          have key : a'.defers = [] ∧ ∃ v, (results fn a'.tmps).run P w' = .ok v w' ∧ retPost (fun v' w' => Post σ sup ⟨rv, sup1, h1, lg1, none⟩ w v' w') (.returned v) w' := by
            obtain ⟨v', h2, h3⟩ := resA_run st1 hv
            refine ⟨st1.df, v', h2, σ1, t1.sub fun b m hb hq => ?_, h3, st1.hr.sub fun _ _ _ _ => trivial⟩
            rcases hq with hq | hq
            · exact hq
            · have := hd b m hb; omega
          simp only at q1
          rcases hex with rfl | rfl
          · cases en <;> simp only [exR] at q1
            exact key
          · cases en <;> simp only [exR] at q1
            exact key
        cases ex with
        | exit j => cases e'
        | normal =>
          simp only at e'
          split at e'
          · rename_i v hv; cases e'; exact fin v hv rfl (.inl rfl)
          · cases e'
        | ret =>
          simp only at e'
          split at e'
          · rename_i v hv; cases e'; exact fin v hv rfl (.inr rfl)
          · cases e'
      · cases e'
    · cases (show (none : Option R) = some r from e)
  · cases (show (none : Option R) = some r from e)
/-- What is known of functions already. -/
def GoodX (P : Program) (X : FuncId → Option (List Value → Nat → Heap → Option R)) : Prop :=
  ∀ f g, X f = some g → ∀ args sup h r, g args sup h = some r → HF h sup → Abs sup h r ∧ (∃ fn, P.funcs[f]? = some fn ∧ (fn.name == "runtime.NumGoroutine") = false ∧ fn.body.isNone = false) ∧
    ∀ (σ : Sig) (args' : List Value) (w : World), LR σ args args' → HR (inFt r.ft) σ h w → Dom σ sup → Gl P σ → Calls P f args'.toArray w (retPost fun v' w' => Post σ sup r w v' w')
theorem callN_ok {P : Program} {X : FuncId → Option (List Value → Nat → Heap → Option R)} (hm : P.follows .mixedOrders = true) (hX : GoodX P X) (n : Nat) : ∀ m, GoodC P (callN P X n m)
  | 0 => fun f args sup h r e => by cases (show (none : Option R) = some r from e)
  | m + 1 => fun f args sup h r e hf => by
    have e' : (match X f with
      | some g => g args sup h
      | none => match fnX P f with
        | ⟨g⟩ => g (callN P X n m) n args sup h) = some r := e
    split at e'
    · rename_i g hg
      exact hX f g hg args sup h r e' hf
    · split at e'
      rename_i g hg
      have : (fnX P f).f (callN P X n m) n args sup h = some r := by rw [hg]; exact e'
      exact fnX_ok hm (callN_ok hm hX n m) n f args sup h r this hf
end Go.Ev
