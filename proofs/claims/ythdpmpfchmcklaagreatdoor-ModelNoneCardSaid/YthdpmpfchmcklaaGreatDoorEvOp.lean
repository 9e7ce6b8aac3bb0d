import Derived.Test.YthdpmpfchmcklaaGreatDoorEvCell
namespace Go.Ev
open Go.RowKit

def EvS (σ : Sig) (fr : Frm) (a : Act) (x : Operand) : Prop := ∀ v, (evX x).f fr = some v → VR σ v (a.eval x)
def OpS (P : Program) (op : Op) (F : OpF) : Prop :=
  ∀ fr sup h r, F fr sup h = some r → HF h sup → Abs sup h r ∧ ∀ (o : Oper), o.op = op → ∀ (σ : Sig) (a : Act) (w : World), (∀ x ∈ op.operands.toList, EvS σ fr a x) → HR (inFt r.ft) σ h w → Dom σ sup → Gl P σ →
    ∀ (K : Act → World → Prop) (Q : Exit → Act → World → Prop), (∀ v' w', Post σ sup r w v' w' → K (a.put o.dst v') w') → o.wp P a w K Q

theorem wp_value {P : Program} {o : Oper} {a : Act} {w w' : World} {v : Value} {K : Act → World → Prop} {Q : Exit → Act → World → Prop} (h : (execOp a.eval o).run P w = .ok (.value v) w') (k : K (a.put o.dst v) w') : o.wp P a w K Q := by
  unfold Oper.wp; rw [h]; exact k
theorem wp_skip' {P : Program} {o : Oper} {a : Act} {w w' : World} {K : Act → World → Prop} {Q : Exit → Act → World → Prop} (h : (execOp a.eval o).run P w = .ok .skip w') (k : K (a.put o.dst undef) w') : o.wp P a w K Q := by
  unfold Oper.wp; rw [h]; exact k

/-- the result of an operation that computes a value out of values -/
theorem pureO_some {v : Option Value} {sup : Nat} {h : Heap} {r : R} (e : pureO v sup h = some r) : ∃ x, v = some x ∧ r = ⟨x, sup, h, [], some []⟩ := by
  unfold pureO at e
  split at e
  · cases e; exact ⟨_, rfl, rfl⟩
  · cases e
theorem R.pure_eq (v : Value) (sup : Nat) (h : Heap) : R.pure v sup h = ⟨v, sup, h, [], some []⟩ := rfl

theorem x1_f (x : Operand) (k : Option Value → Nat → Heap → Option R) (fr : Frm) (sup : Nat) (h : Heap) : (x1 x k).f fr sup h = k ((evX x).f fr) sup h := rfl
theorem x2_f (x y : Operand) (k : Option Value → Option Value → Nat → Heap → Option R) (fr : Frm) (sup : Nat) (h : Heap) : (x2 x y k).f fr sup h = k ((evX x).f fr) ((evX y).f fr) sup h := rfl

/-! #### move, assign -/
theorem s_move (P : Program) (x : Operand) : OpS P (.move x) (x1 x pureO).f := by
  intro fr sup h r e hf
  rw [x1_f] at e
  obtain ⟨v, hv, rfl⟩ := pureO_some e
  refine ⟨abs_pure _ _ _ _, fun o ho σ a w hx hr hd hg K Q hK => ?_⟩
  have := hx x (by simp [Op.operands]) v hv
  exact wp_value (v := a.eval x) (w' := w) (by simp [execOp, ho]) (hK _ _ (post_pure hd this))
theorem s_assign (P : Program) (x : Operand) : OpS P (.assign x) (x1 x pureO).f := by
  intro fr sup h r e hf
  rw [x1_f] at e
  obtain ⟨v, hv, rfl⟩ := pureO_some e
  refine ⟨abs_pure _ _ _ _, fun o ho σ a w hx hr hd hg K Q hK => ?_⟩
  have := hx x (by simp [Op.operands]) v hv
  exact wp_value (v := a.eval x) (w' := w) (by simp [execOp, ho]) (hK _ _ (post_pure hd this))

/-! #### pick -/
theorem s_pick (P : Program) (c x y : Operand) : OpS P (.pick c x y) (xPick c x y).f := by
  intro fr sup h r e hf
  have e' : oPick ((evX c).f fr) ((evX x).f fr) ((evX y).f fr) sup h = some r := e
  unfold oPick at e'
  split at e'
  · rename_i t u v hc hu hv
    cases e'
    refine ⟨abs_pure _ _ _ _, fun o ho σ a w hx hr hd hg K Q hK => ?_⟩
    have h1 := hx c (by simp [Op.operands]) _ hc
    have h2 := hx x (by simp [Op.operands]) _ hu
    have h3 := hx y (by simp [Op.operands]) _ hv
    have hc' := h1.of_plain (by rfl)
    refine wp_value (v := if t then a.eval x else a.eval y) (w' := w) ?_ (hK _ _ (post_pure hd ?_))
    · simp [execOp, ho, hc', asBool]
    · cases t <;> simpa
  · cases e'

/-! #### extract -/
theorem s_extract (P : Program) (x : Operand) (i : Nat) : OpS P (.extract x i) (x1 x (oExt i)).f := by
  intro fr sup h r e hf
  rw [x1_f] at e
  unfold oExt at e
  split at e
  · rename_i vs hv
    obtain ⟨u, hu, rfl⟩ := pureO_some e
    refine ⟨abs_pure _ _ _ _, fun o ho σ a w hx hr hd hg K Q hK => ?_⟩
    obtain ⟨vs', e1, h1⟩ := (hx x (by simp [Op.operands]) _ hv).of_tuple
    obtain ⟨u', hu', hr'⟩ := h1.some_of (i := i) (v := u) (by simpa using hu)
    exact wp_value (v := u') (w' := w) (by simp [execOp, ho, e1, Instr.extract, hu']) (hK _ _ (post_pure hd hr'))
  · cases e

/-! #### parts -/
theorem isAggA_run {P : Program} {t : TypeId} {b : Bool} (h : isAggA P t = some b) (w : World) : (isAgg t).run P w = .ok b w := by
  unfold isAggA at h
  split at h <;> (try cases h)
  · rename_i hu; simp [isAgg, run_underlying hu]
  · rename_i hu; simp [isAgg, run_underlying hu]
  · rename_i d h1 h2 hu
    cases d <;> first
      | exact absurd rfl (h1 _)
      | exact absurd rfl (h2 _ _)
      | simp [isAgg, run_underlying hu]
theorem szA_info {P : Program} {t : TypeId} {n : Nat} (h : szA P t = some n) : ∃ i, P.info? t = some i ∧ i.size = n := by
  unfold szA at h
  split at h
  · rename_i i hi; cases h; exact ⟨i, hi, rfl⟩
  · cases h
theorem szA_run {P : Program} {t : TypeId} {n : Nat} (h : szA P t = some n) (w : World) : (sizeOf t).run P w = .ok n w := by
  obtain ⟨i, hi, rfl⟩ := szA_info h
  simp [sizeOf, typeInfo, hi]
theorem partA_run {P : Program} {σ : Sig} {t : TypeId} {cs cs' : Array Value} {off : Nat} {v : Value} (h : partA P t cs off = some v) (hc : AR σ cs cs') : ∃ v', (∀ w, (part t cs' off).run P w = .ok v' w) ∧ VR σ v v' := by
  unfold partA at h
  split at h
  · rename_i ha
    split at h
    · rename_i n hn
      cases h
      refine ⟨.agg (cs'.extract off (off + n)), fun w => by simp [part, isAggA_run ha, szA_run hn], ?_⟩
      have hl := hc.toList
      have : LR σ ((cs.toList.drop off).take n) ((cs'.toList.drop off).take n) := by
        refine ⟨by simp [hl.1], fun i x x' hx hx' => ?_⟩
        rw [List.getElem?_take] at hx hx'
        split at hx
        · rename_i hi
          rw [if_pos hi] at hx'
          rw [List.getElem?_drop] at hx hx'
          exact hl.2 _ _ _ hx hx'
        · cases hx
      have e2 : cs'.extract off (off + n) = ((cs'.toList.drop off).take n).toArray := by
        apply Array.ext'
        simp [Array.toList_extract, List.extract]
      rw [e2]
      exact .agg this.toArray.1 this.toArray.2
    · cases h
  · rename_i ha
    obtain ⟨v', h1, h2⟩ := hc.some_of (i := off) (v := v) (by simpa using h)
    exact ⟨v', fun w => by simp [part, isAggA_run ha, h1], h2⟩
  · cases h

/-! #### field, fieldAddr -/
theorem fieldA_some {P : Program} {t : TypeId} {i : Nat} {f : Field} (h : fieldA P t i = some f) : ∃ fs, P.underlying t = some (.struct fs) ∧ fs[i]? = some f := by
  unfold fieldA at h
  split at h
  · rename_i fs hu; exact ⟨fs, hu, by simpa using h⟩
  · cases h
theorem s_field (P : Program) (t : TypeId) (x : Operand) (i : Nat) : OpS P (.field t x i) (x1 x (oField P t i)).f := by
  intro fr sup h r e hf
  rw [x1_f] at e
  unfold oField at e
  split at e
  · rename_i f cs hfi hv
    obtain ⟨u, hu, rfl⟩ := pureO_some e
    refine ⟨abs_pure _ _ _ _, fun o ho σ a w hx hr hd hg K Q hK => ?_⟩
    obtain ⟨cs', e1, h1⟩ := (hx x (by simp [Op.operands]) _ hv).of_agg
    obtain ⟨u', hu', hr'⟩ := partA_run hu h1
    obtain ⟨fs, hs, hsi⟩ := fieldA_some hfi
    exact wp_value (v := u') (w' := w) (by simp [execOp, ho, e1, Instr.field, run_underlying hs, hsi, asAgg, hu' w]) (hK _ _ (post_pure hd hr'))
  · cases e
theorem foffA_some {P : Program} {t : TypeId} {i n : Nat} (h : foffA P t i = some n) : ∃ fs f k, P.underlying t = some (.struct fs) ∧ fs[i]? = some f ∧ szA P f.type = some k ∧ k ≠ 0 ∧ f.offset = n := by
  unfold foffA at h
  split at h
  · rename_i f hf
    split at h
    · rename_i k hk
      obtain ⟨fs, h1, h2⟩ := fieldA_some hf
      by_cases hz : k = 0
      · subst hz; simp at h
      · rw [show Nat.beq k 0 = false by rw [Bool.eq_false_iff]; simpa using hz] at h
        simp at h
        exact ⟨fs, f, k, h1, h2, hk, hz, h⟩
    · cases h
  · cases h
theorem s_fieldAddr (P : Program) (t : TypeId) (x : Operand) (i : Nat) : OpS P (.fieldAddr t x i) (x1 x (oFAddr P t i)).f := by
  intro fr sup h r e hf
  rw [x1_f] at e
  unfold oFAddr at e
  split at e
  · rename_i n b o hfi hv
    cases e
    refine ⟨abs_pure _ _ _ _, fun o' ho σ a w hx hr hd hg K Q hK => ?_⟩
    obtain ⟨m, hm, e1⟩ := (hx x (by simp [Op.operands]) _ hv).of_ptr
    obtain ⟨fs, f, k, h1, h2, h3, h4, h5⟩ := foffA_some hfi
    refine wp_value (v := .pointer (some ⟨m.blk, m.sh + o + n, none⟩)) (w' := w) ?_ (hK _ _ (post_pure hd ?_))
    · simp [execOp, ho, e1, Instr.fieldAt, run_underlying h1, h2, Instr.sureAddr, fieldPlace, szA_run h3, h4, h5, Addr.add_lit]
    · rw [Nat.add_assoc]; exact .ptr hm
  · cases e

/-! #### index, indexAddr -/
theorem toNatA_some {v : Value} {n : Nat} (h : toNatA v = some n) : ∃ k, v = .int k (n : Int) := by
  unfold toNatA at h
  split at h
  · cases h; exact ⟨_, rfl⟩
  · cases h
theorem cond_some {α : Type} {b : Bool} {x : Option α} {y : α} (h : cond b x none = some y) : b = true ∧ x = some y := by
  cases b with
  | true => exact ⟨rfl, h⟩
  | false => cases h
theorem s_indexAddr (P : Program) (t : TypeId) (x i : Operand) : OpS P (.indexAddr t x i) (x2 x i (oIdxA P t)).f := by
  intro fr sup h r e hf
  rw [x2_f] at e
  unfold oIdxA at e
  split at e
  · rename_i xv iv hxv hiv
    obtain ⟨u, hu, rfl⟩ := pureO_some e
    refine ⟨abs_pure _ _ _ _, fun o' ho σ a w hx hr hd hg K Q hK => ?_⟩
    have h1 := hx x (by simp [Op.operands]) _ hxv
    have h2 := hx i (by simp [Op.operands]) _ hiv
    unfold idxAddrA at hu
    split at hu
    · rename_i n hn
      obtain ⟨kd, rfl⟩ := toNatA_some hn
      have h2' := h2.of_plain (by rfl)
      split at hu
      · rename_i len el b o hU
        split at hu
        · rename_i z hz
          obtain ⟨hc, hv⟩ := cond_some hu
          cases hv
          obtain ⟨m, hm, e1⟩ := h1.of_ptr
          have hlt : n < len := by simpa using hc
          refine wp_value (v := .pointer (some ⟨m.blk, m.sh + o + n * z, none⟩)) (w' := w) ?_ (hK _ _ (post_pure hd ?_))
          · simp [execOp, ho, e1, h2', Instr.indexAt, run_underlying hU, Instr.sureAddr, asIntOf, szA_run hz, Addr.add_lit, hlt]
          · rw [Nat.add_assoc]; exact .ptr hm
        · cases hu
      · rename_i el b o len c hU
        split at hu
        · rename_i z hz
          obtain ⟨hc, hv⟩ := cond_some hu
          cases hv
          have hlt : n < len := by simpa using hc
          obtain ⟨m, o', c', hm, e1, hle, hle', hcap⟩ := h1.of_slice
          rcases hcap with ⟨ho', _⟩ | ⟨h0, _, _⟩
          · subst ho'
            refine wp_value (v := .pointer (some ⟨m.blk, m.sh + o + n * z, none⟩)) (w' := w) ?_ (hK _ _ (post_pure hd ?_))
            · simp [execOp, ho, e1, h2', Instr.indexAt, run_underlying hU, Instr.sureAddr, asIntOf, szA_run hz, Addr.add_lit, hlt]
            · rw [Nat.add_assoc]; exact .ptr hm
          · omega
        · cases hu
      · cases hu
    · cases hu
  · cases e
theorem s_index (P : Program) (t : TypeId) (x i : Operand) : OpS P (.index t x i) (x2 x i (oIdx P t)).f := by
  intro fr sup h r e hf
  rw [x2_f] at e
  unfold oIdx at e
  split at e
  · rename_i xv iv hxv hiv
    obtain ⟨u, hu, rfl⟩ := pureO_some e
    refine ⟨abs_pure _ _ _ _, fun o' ho σ a w hx hr hd hg K Q hK => ?_⟩
    have h1 := hx x (by simp [Op.operands]) _ hxv
    have h2 := hx i (by simp [Op.operands]) _ hiv
    unfold idxA at hu
    split at hu
    · rename_i n hn
      obtain ⟨kd, rfl⟩ := toNatA_some hn
      have h2' := h2.of_plain (by rfl)
      split at hu
      · rename_i len el cs hU
        split at hu
        · rename_i z hz
          obtain ⟨hc, hv⟩ := cond_some hu
          have hlt : n < len := by simpa using hc
          obtain ⟨cs', e1, hcs⟩ := h1.of_agg
          obtain ⟨u', hu', hr'⟩ := partA_run hv hcs
          exact wp_value (v := u') (w' := w) (by simp [execOp, ho, e1, h2', Instr.index, run_underlying hU, asIntOf, szA_run hz, hlt, hu' w]) (hK _ _ (post_pure hd hr'))
        · cases hu
      · rename_i s hU
        split at hu
        · rename_i b hb
          cases hu
          have h1' := h1.of_plain (by rfl)
          have hlt : n < s.size := by
            have := (List.getElem?_eq_some_iff.1 hb).1
            rw [Array.length_toList] at this; exact this
          have hb' : s[n]? = some b := by
            rw [getElem?_pos s n hlt]
            exact congrArg some (List.getElem?_eq_some_iff.1 hb).2
          refine wp_value (v := .int .u8 (b.toNat : Int)) (w' := w) ?_ (hK _ _ (post_pure hd (.plain rfl)))
          have hi : ∀ w : World, (Instr.index t (.string s) (.int kd (n : Int))).run P w = .ok (.int .u8 (b.toNat : Int)) w := by
            intro w
            simp only [Instr.index, asIntOf, Sem.run_bind, Sem.run_pure, run_underlying hU, Result.andThen]
            rw [if_pos (Int.natCast_nonneg n), Int.toNat_natCast, hb']
            rfl
          simp only [execOp, ho, h1', h2', Sem.run_bind, hi]
          rfl
        · cases hu
      · cases hu
    · cases hu
  · cases e

/-! #### unOp, nilCheck, makeFunc -/
theorem s_unOp (P : Program) (op : UnOp) (t : TypeId) (x : Operand) : OpS P (.unOp op t x) (x1 x (oUn op)).f := by
  intro fr sup h r e hf
  rw [x1_f] at e
  unfold oUn at e
  split at e
  · rename_i v hv
    obtain ⟨u, hu, rfl⟩ := pureO_some e
    refine ⟨abs_pure _ _ _ _, fun o' ho σ a w hx hr hd hg K Q hK => ?_⟩
    have h1 := hx x (by simp [Op.operands]) _ hv
    unfold unA at hu
    split at hu
    · cases hu
      have h1' := h1.of_plain (by rfl)
      refine wp_value (w' := w) ?_ (hK _ _ (post_pure hd (.plain rfl)))
      simp [execOp, ho, h1', Op.unary, Op.intArith, wrapA_eq]
    · cases hu
      have h1' := h1.of_plain (by rfl)
      refine wp_value (w' := w) ?_ (hK _ _ (post_pure hd (.plain rfl)))
      simp [execOp, ho, h1', Op.unary, bitsA_eq, intBits_xor]
    · cases hu
      have h1' := h1.of_plain (by rfl)
      refine wp_value (w' := w) ?_ (hK _ _ (post_pure hd (.plain rfl)))
      simp [execOp, ho, h1', Op.unary]
    · cases hu
  · cases e
theorem s_nilCheck (P : Program) (x : Operand) : OpS P (.nilCheck x) (x1 x oNil).f := by
  intro fr sup h r e hf
  rw [x1_f] at e
  unfold oNil at e
  split at e
  · rename_i ad hv
    cases e
    refine ⟨abs_pure _ _ _ _, fun o' ho σ a w hx hr hd hg K Q hK => ?_⟩
    have h1 := hx x (by simp [Op.operands]) _ hv
    have key : ∀ y, VR σ (.pointer (some ad)) y → ∃ ad', y = .pointer (some ad') := by
      intro y hy
      cases hy with
      | plain hp => simp [Ev.plain] at hp
      | ptr hm => exact ⟨_, rfl⟩
    obtain ⟨ad', e1⟩ := key _ h1
    rw [e1] at h1
    exact wp_value (w' := w) (by simp [execOp, ho, e1]) (hK _ _ (post_pure hd h1))
  · rename_i k f c hv
    cases e
    refine ⟨abs_pure _ _ _ _, fun o' ho σ a w hx hr hd hg K Q hK => ?_⟩
    have h1 := hx x (by simp [Op.operands]) _ hv
    obtain ⟨f', c', e1, hf', hc'⟩ := h1.of_func
    exact wp_value (w' := w) (by simp [execOp, ho, e1]) (hK _ _ (post_pure hd (.func hf'.1 hf'.2 hc'.1 hc'.2)))
  · cases e
theorem consO_some {v : Option Value} {l : Option (List Value)} {r : List Value} (h : consO v l = some r) : ∃ x xs, v = some x ∧ l = some xs ∧ r = x :: xs := by
  unfold consO at h
  split at h
  · split at h
    · cases h; exact ⟨_, _, rfl, rfl, rfl⟩
    · cases h
  · cases h
theorem evsX_cons (x : Operand) (r : List Operand) (fr : Frm) : (evsX (x :: r)).f fr = consO ((evX x).f fr) ((evsX r).f fr) := rfl
theorem evsX_some {σ : Sig} {fr : Frm} {a : Act} : ∀ {l : List Operand} {vs : List Value}, (evsX l).f fr = some vs → (∀ x ∈ l, EvS σ fr a x) → LR σ vs (l.map a.eval)
  | [], vs, h, _ => by cases h; exact LR.nil
  | x :: r, vs, h, hx => by
    rw [evsX_cons] at h
    obtain ⟨v, xs, h1, h2, rfl⟩ := consO_some h
    exact (evsX_some h2 (fun y hy => hx y (by simp [hy]))).cons (hx x (by simp) v h1)
theorem s_makeFunc (P : Program) (fn : Fn) (f c : Array Operand) : OpS P (.makeFunc fn f c) (xFunc fn f.toList c.toList).f := by
  intro fr sup h r e hf
  have e' : oFunc fn ((evsX f.toList).f fr) ((evsX c.toList).f fr) sup h = some r := e
  unfold oFunc at e'
  split at e'
  · rename_i fv cv hfv hcv
    cases e'
    refine ⟨abs_pure _ _ _ _, fun o' ho σ a w hx hr hd hg K Q hK => ?_⟩
    have h1 := (evsX_some hfv (fun x hm => hx x (by simp [Op.operands] at hm ⊢; exact .inl hm))).toArray
    have h2 := (evsX_some hcv (fun x hm => hx x (by simp [Op.operands] at hm ⊢; exact .inr hm))).toArray
    refine wp_value (v := .func fn (f.map a.eval) (c.map a.eval)) (w' := w) (by simp [execOp, ho, Instr.makeFunc]) (hK _ _ (post_pure hd ?_))
    have e1 : (f.map a.eval) = (f.toList.map a.eval).toArray := by apply Array.ext'; simp
    have e2 : (c.map a.eval) = (c.toList.map a.eval).toArray := by apply Array.ext'; simp
    rw [e1, e2]
    exact .func h1.1 h1.2 h2.1 h2.2
  · cases e'
end Go.Ev
