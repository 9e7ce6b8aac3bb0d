import Derived.Test.YthdpmpfchmcklaaGreatDoorEvOp
import Derived.Laws.StructEq
namespace Go.Ev
open Go.RowKit

/-! #### equality -/
theorem eqBytes_eq : ∀ a b : List UInt8, eqBytes a b = (a == b)
  | [], [] => rfl
  | [], _ :: _ => rfl
  | _ :: _, [] => rfl
  | a :: r, b :: s => by
    have e1 : Nat.beq a.toNat b.toNat = (a == b) := by
      rw [Bool.eq_iff_iff]; simp [UInt8.toNat_inj]
    rw [eqBytes, eqBytes_eq r s, e1]; rfl
theorem VR.nil_ptr {σ : Sig} {v' : Value} (h : VR σ (.pointer none) v') : v' = .pointer none := h.of_plain (by rfl)
theorem VR.some_ptr {σ : Sig} {ad : Addr} {v' : Value} (h : VR σ (.pointer (some ad)) v') : ∃ ad', v' = .pointer (some ad') := by
  cases h with
  | plain h => simp [Ev.plain] at h
  | ptr h => exact ⟨_, rfl⟩
theorem VR.any_ptr {σ : Sig} {p : Option Addr} {v' : Value} (h : VR σ (.pointer p) v') : ∃ p', v' = .pointer p' ∧ p'.isNone = p.isNone := by
  cases p with
  | none => exact ⟨none, h.nil_ptr, rfl⟩
  | some ad => obtain ⟨ad', e⟩ := h.some_ptr; exact ⟨_, e, rfl⟩
theorem VR.some_slice {σ : Sig} {ad : Addr} {n c : Nat} {v' : Value} (h : VR σ (.slice (some ad) n c) v') : ∃ ad' c', v' = .slice (some ad') n c' := by
  cases h with
  | plain h => simp [Ev.plain] at h
  | slice h => exact ⟨_, _, rfl⟩
  | slice0 h => exact ⟨_, _, rfl⟩
theorem VR.any_slice {σ : Sig} {p : Option Addr} {n c : Nat} {v' : Value} (h : VR σ (.slice p n c) v') : ∃ p' c', v' = .slice p' n c' ∧ p'.isNone = p.isNone := by
  cases p with
  | none => exact ⟨none, c, h.of_plain (by rfl), rfl⟩
  | some ad => obtain ⟨ad', c', e⟩ := h.some_slice; exact ⟨_, _, e, rfl⟩
theorem VR.any_func {σ : Sig} {fn : Fn} {f c : Array Value} {v' : Value} (h : VR σ (.func fn f c) v') : ∃ f' c', v' = .func fn f' c' := by
  obtain ⟨f', c', e, _⟩ := h.of_func; exact ⟨f', c', e⟩
theorem VR.some_map {σ : Sig} {r : Nat} {v' : Value} (h : VR σ (.map (some r)) v') : False := by
  cases h with
  | plain h => simp [Ev.plain] at h

theorem eqA_run {P : Program} {σ : Sig} : ∀ (d : Nat) (t : TypeId) (x y : Value) (b : Bool), eqA P d t x y = some b → ∀ x' y', VR σ x x' → VR σ y y' → ∀ w, (Op.equalIn d t x' y').run P w = .ok b w
  | 0, t, x, y, b, h, _, _, _, _, _ => by simp [eqA] at h
  | d + 1, t, x, y, b, h, x', y', hx, hy, w => by
    unfold eqA at h
    split at h
    · rename_i hu; rw [hx.of_plain (by rfl), hy.of_plain (by rfl)]; cases h; simp [Op.equalIn, run_underlying hu]
    · rename_i k1 k a k' b' hu
      obtain ⟨hk, hb⟩ := cond_some h
      have := kix_inj hk; subst this
      rw [hx.of_plain (by rfl), hy.of_plain (by rfl)]; cases hb
      rw [run_equalIn_int w d t k _ a b' hu, eqI_beq]
    · rename_i a b' hu
      rw [hx.of_plain (by rfl), hy.of_plain (by rfl)]; cases h
      rw [run_equalIn_string w d t a b' hu, ByteArray.toList_eq, ByteArray.toList_eq, eqBytes_eq]
    · rename_i e p hu
      cases h
      obtain ⟨p', e1, e2⟩ := hy.any_ptr
      rw [hx.nil_ptr, e1, ← e2]; simp [Op.equalIn, run_underlying hu]
    · rename_i e p hu
      cases h
      obtain ⟨p', e1⟩ := hx.some_ptr
      rw [hy.nil_ptr, e1]; simp [Op.equalIn, run_underlying hu]
    · rename_i e n c p n' c' hu
      cases h
      obtain ⟨p', c'', e1, e2⟩ := hy.any_slice
      rw [hx.of_plain (by rfl), e1, ← e2]; simp [Op.equalIn, run_underlying hu]
    · rename_i e p n c n' c' hu
      cases h
      obtain ⟨p', c'', e1⟩ := hx.some_slice
      rw [hy.of_plain (by rfl), e1]; simp [Op.equalIn, run_underlying hu]
    · rename_i k v p hu
      cases h
      cases p with
      | none => rw [hx.of_plain (by rfl), hy.of_plain (by rfl)]; simp [Op.equalIn, run_underlying hu]
      | some r => exact absurd hy.some_map id
    · rename_i k v p hu
      exact absurd hx.some_map id
    · rename_i hu; rw [hx.of_plain (by rfl), hy.of_plain (by rfl)]; cases h; simp [Op.equalIn, run_underlying hu]
    · rename_i hu
      cases h
      obtain ⟨f', c', e1⟩ := hy.any_func
      rw [hx.of_plain (by rfl), e1]; simp [Op.equalIn, run_underlying hu]
    · rename_i hu
      cases h
      obtain ⟨f', c', e1⟩ := hx.any_func
      rw [hy.of_plain (by rfl), e1]; simp [Op.equalIn, run_underlying hu]
    · rename_i fs xs ys hu
      split at h
      · cases h
      · rename_i hst
        obtain ⟨xs', e1, hxs⟩ := hx.of_agg
        obtain ⟨ys', e2, hys⟩ := hy.of_agg
        have hF : P.fieldsOf t = fs := by unfold Program.fieldsOf; rw [hu]
        rw [e1, e2, run_equalIn_struct w d t xs' ys' (by rw [hF]; exact hu) (by simpa using hst), hF]
        clear hF hu
        generalize fs.toList = l at h
        induction l generalizing b w with
        | nil => cases h; simp [Op.eqFields]
        | cons f l ih =>
          simp only [List.foldr_cons] at h
          simp only [Op.eqFields]
          split at h
          · rename_i hn
            rw [if_neg (by simp [hn])]
            exact ih b w h
          · rename_i hn
            rw [if_pos hn]
            split at h
            · rename_i a b' ha hb
              obtain ⟨a', ra, va⟩ := partA_run ha hxs
              obtain ⟨b'', rb, vb⟩ := partA_run hb hys
              simp only [Sem.run_bind, ra, rb, Result.andThen_ok]
              split at h
              · rename_i hq
                rw [eqA_run d _ _ _ _ hq a' b'' va vb]
                simp only [Result.andThen_ok, Bool.not_true, Bool.false_eq_true, if_false]
                exact ih b w h
              · rename_i hne
                rw [eqA_run d _ _ _ _ h a' b'' va vb]
                cases b with
                | true => exact absurd h hne
                | false => simp
            · cases h
    · rename_i n e xs ys hu
      split at h
      · rename_i c hc
        obtain ⟨xs', e1, hxs⟩ := hx.of_agg
        obtain ⟨ys', e2, hys⟩ := hy.of_agg
        obtain ⟨i, hi, hci⟩ := szA_info hc
        have hcell : P.cellsOf e = c := by simp [Program.cellsOf, hi, hci]
        rw [e1, e2, run_equalIn_array w d xs' ys' hu hi, hcell]
        generalize List.range n = l at h
        clear hu
        induction l generalizing b w with
        | nil => cases h; simp [Op.eqItems]
        | cons j l ih =>
          simp only [List.foldr_cons] at h
          simp only [Op.eqItems]
          split at h
          · rename_i a b' ha hb
            obtain ⟨a', ra, va⟩ := partA_run ha hxs
            obtain ⟨b'', rb, vb⟩ := partA_run hb hys
            simp only [Sem.run_bind, ra, rb, Result.andThen_ok]
            split at h
            · rename_i hq
              rw [eqA_run d _ _ _ _ hq a' b'' va vb]
              simp only [Result.andThen_ok, Bool.not_true, Bool.false_eq_true, if_false]
              exact ih b w h
            · rename_i hne
              rw [eqA_run d _ _ _ _ h a' b'' va vb]
              cases b with
              | true => exact absurd h hne
              | false => simp
          · cases h
      · cases h
    · cases h

/-! #### binOp -/
theorem iNum_some {f : IntKind → Int → Int → Int} {x y r : Value} (h : iNum f x y = some r) : ∃ k a b, x = .int k a ∧ y = .int k b ∧ r = .int k (f k a b) := by
  unfold iNum at h
  split at h
  · split at h
    · obtain ⟨hk, hr⟩ := cond_some h
      have := kix_inj hk; subst this
      cases hr; exact ⟨_, _, _, rfl, rfl, rfl⟩
    · cases h
  · cases h
theorem iCmp_some {f : Int → Int → Bool} {x y r : Value} (h : iCmp f x y = some r) : ∃ k a b, x = .int k a ∧ y = .int k b ∧ r = .bool (f a b) := by
  unfold iCmp at h
  split at h
  · split at h
    · obtain ⟨hk, hr⟩ := cond_some h
      have := kix_inj hk; subst this
      cases hr; exact ⟨_, _, _, rfl, rfl, rfl⟩
    · cases h
  · cases h
theorem iDiv_some {f : IntKind → Int → Int → Int} {x y r : Value} (h : iDiv f x y = some r) : ∃ k a b, x = .int k a ∧ y = .int k b ∧ b ≠ 0 ∧ r = .int k (f k a b) := by
  unfold iDiv at h
  split at h
  · rename_i k b
    cases hz : eqI b (.ofNat 0) with
    | true => rw [hz] at h; cases h
    | false =>
      rw [hz] at h
      obtain ⟨k, a, b', h1, h2, h3⟩ := iNum_some (show iNum f x (.int _ b) = some r from h)
      cases h2
      rw [eqI_eq] at hz
      exact ⟨k, a, b, h1, rfl, by simpa using hz, h3⟩
  · cases h
theorem iSh_some {f : IntKind → Int → Nat → Int} {x y r : Value} (h : iSh f x y = some r) : ∃ k a k', ∃ b : Nat, x = .int k a ∧ y = .int k' (b : Int) ∧ r = .int k (f k a (min b k.bits)) := by
  unfold iSh at h
  split at h
  · split at h
    · cases h; exact ⟨_, _, _, _, rfl, rfl, rfl⟩
    · cases h
  · cases h
theorem guard_int {P : Program} (op : BinOp) (t : TypeId) (x y : Operand) (k k' : IntKind) (a b : Int) (w : World) : (eqGuard op t x y (.int k a) (.int k' b)).run P w = .ok () w := by
  cases op <;> simp [eqGuard]
theorem guard_str {P : Program} (op : BinOp) (t : TypeId) (x y : Operand) (a b : ByteArray) (w : World) : (eqGuard op t x y (.string a) (.string b)).run P w = .ok () w := by
  cases op <;> simp [eqGuard]

def BinS (P : Program) (op : BinOp) (t : TypeId) (f : Bin) : Prop :=
  ∀ u v r, f u v = some r → plain r = true ∧ ∀ (σ : Sig) (u' v' : Value) (x y : Operand), VR σ u u' → VR σ v v' → ∀ w, (eqGuard op t x y u' v').run P w = .ok () w ∧ (binOp op t u' v').run P w = .ok r w
theorem bin_num {P : Program} {op : BinOp} {t : TypeId} {f : IntKind → Int → Int → Int} (h : ∀ k a b w, (binOp op t (.int k a) (.int k b)).run P w = .ok (.int k (f k a b)) w) : BinS P op t (iNum f) := by
  intro u v r e
  obtain ⟨k, a, b, rfl, rfl, rfl⟩ := iNum_some e
  refine ⟨rfl, fun σ u' v' x y hu hv w => ?_⟩
  rw [hu.of_plain (by rfl), hv.of_plain (by rfl)]
  exact ⟨guard_int _ _ _ _ _ _ _ _ _, h _ _ _ _⟩
theorem bin_cmp {P : Program} {op : BinOp} {t : TypeId} {f : Int → Int → Bool} (h : ∀ k a b w, (binOp op t (.int k a) (.int k b)).run P w = .ok (.bool (f a b)) w) : BinS P op t (iCmp f) := by
  intro u v r e
  obtain ⟨k, a, b, rfl, rfl, rfl⟩ := iCmp_some e
  refine ⟨rfl, fun σ u' v' x y hu hv w => ?_⟩
  rw [hu.of_plain (by rfl), hv.of_plain (by rfl)]
  exact ⟨guard_int _ _ _ _ _ _ _ _ _, h _ _ _ _⟩
theorem bin_div {P : Program} {op : BinOp} {t : TypeId} {f : IntKind → Int → Int → Int} (h : ∀ k a b w, b ≠ 0 → (binOp op t (.int k a) (.int k b)).run P w = .ok (.int k (f k a b)) w) : BinS P op t (iDiv f) := by
  intro u v r e
  obtain ⟨k, a, b, rfl, rfl, hb, rfl⟩ := iDiv_some e
  refine ⟨rfl, fun σ u' v' x y hu hv w => ?_⟩
  rw [hu.of_plain (by rfl), hv.of_plain (by rfl)]
  exact ⟨guard_int _ _ _ _ _ _ _ _ _, h _ _ _ _ hb⟩
theorem bin_sh {P : Program} {op : BinOp} {t : TypeId} {f : IntKind → Int → Nat → Int} (h : ∀ k a k' (b : Nat) w, (binOp op t (.int k a) (.int k' (b : Int))).run P w = .ok (.int k (f k a (min b k.bits))) w) : BinS P op t (iSh f) := by
  intro u v r e
  obtain ⟨k, a, k', b, rfl, rfl, rfl⟩ := iSh_some e
  refine ⟨rfl, fun σ u' v' x y hu hv w => ?_⟩
  rw [hu.of_plain (by rfl), hv.of_plain (by rfl)]
  exact ⟨guard_int _ _ _ _ _ _ _ _ _, h _ _ _ _ _⟩
theorem bytes_append (a b : ByteArray) : a ++ b = ⟨⟨a.data.toList ++ b.data.toList⟩⟩ := by
  apply ByteArray.ext
  apply Array.ext'
  simp [ByteArray.data_append]
theorem bin_add (P : Program) (t : TypeId) : BinS P .add t xAdd := by
  intro u v r e
  unfold xAdd at e
  split at e
  · rename_i a
    split at e
    · rename_i b
      unfold sAdd at e
      obtain ⟨hc, hr⟩ := cond_some e
      cases hr
      refine ⟨rfl, fun σ u' v' x y hu hv w => ?_⟩
      rw [hu.of_plain (by rfl), hv.of_plain (by rfl)]
      refine ⟨guard_str _ _ _ _ _ _ _, ?_⟩
      rw [Nat.ble_eq, Array.length_toList, Array.length_toList] at hc
      have hs : ¬ (((a.size + b.size : Nat) : Int) > IntKind.i64.max) := by
        have e : IntKind.i64.max = 9223372036854775807 := rfl
        rw [e]
        have h1 : a.size = a.data.size := rfl
        have h2 : b.size = b.data.size := rfl
        omega
      simp only [binOp, Op.stringOp]
      rw [if_neg hs, bytes_append]
      rfl
    · cases e
  · rename_i hx
    exact bin_num (f := fun k a b => wrapA k (a + b)) (by intro k a b w; simp [binOp, Op.intArith, wrapA_eq]) u v r e
theorem equal_of {P : Program} {σ : Sig} {t : TypeId} {u v u' v' : Value} {b : Bool} (h : eqA P 10000 t u v = some b) (hu : VR σ u u') (hv : VR σ v v') (w : World) : (Op.equal t u' v').run P w = .ok b w :=
  eqA_run 10000 t u v b h u' v' hu hv w
theorem eqOK_shape {P : Program} {t : TypeId} {u : Value} (h : eqOK P t u = true) : (∃ c, u = .agg c ∧ P.eqGuardType P.depth t = false) ∨ (∃ b, u = .bool b) ∨ (∃ p, u = .pointer p) ∨ (∃ p n c, u = .slice p n c) ∨ (∃ r, u = .map r) ∨ (∃ a b c, u = .func a b c) ∨ u = .nilFunc := by
  unfold eqOK at h
  split at h
  · exact .inl ⟨_, rfl, by simpa using h⟩
  · exact .inr (.inl ⟨_, rfl⟩)
  · exact .inr (.inr (.inl ⟨_, rfl⟩))
  · exact .inr (.inr (.inr (.inl ⟨_, _, _, rfl⟩)))
  · exact .inr (.inr (.inr (.inr (.inl ⟨_, rfl⟩))))
  · exact .inr (.inr (.inr (.inr (.inr (.inl ⟨_, _, _, rfl⟩)))))
  · exact .inr (.inr (.inr (.inr (.inr (.inr rfl)))))
  · cases h
theorem eqOK_real {P : Program} {σ : Sig} {t : TypeId} {u u' : Value} (h : eqOK P t u = true) (hu : VR σ u u') : eqOK P t u' = true := by
  rcases eqOK_shape h with ⟨c, rfl, h1⟩ | ⟨b, rfl⟩ | ⟨p, rfl⟩ | ⟨p, n, c, rfl⟩ | ⟨r, rfl⟩ | ⟨a, b, c, rfl⟩ | rfl
  · obtain ⟨c', e, _⟩ := hu.of_agg; rw [e]; simp [eqOK, h1]
  · rw [hu.of_plain (by rfl)]; rfl
  · obtain ⟨p', e, _⟩ := hu.any_ptr; rw [e]; rfl
  · obtain ⟨p', c', e, _⟩ := hu.any_slice; rw [e]; rfl
  · cases hu; rfl
  · obtain ⟨f', c', e⟩ := hu.any_func; rw [e]; rfl
  · rw [hu.of_plain (by rfl)]; rfl
theorem guard_other {P : Program} {op : BinOp} {t : TypeId} {x y : Operand} {u v : Value} (h : eqOK P t u = true) (w : World) : (eqGuard op t x y u v).run P w = .ok () w := by
  rcases eqOK_shape h with ⟨c, rfl, h1⟩ | ⟨b, rfl⟩ | ⟨p, rfl⟩ | ⟨p, n, c, rfl⟩ | ⟨r, rfl⟩ | ⟨a, b, c, rfl⟩ | rfl
  · cases v <;> cases op <;> simp [eqGuard, run_program, h1]
  all_goals cases op <;> simp [eqGuard]
theorem binOp_eql {P : Program} {t : TypeId} {u v : Value} (h : eqOK P t u = true) : binOp .eql t u v = (do pure (.bool (← Op.equal t u v))) := by
  rcases eqOK_shape h with ⟨c, rfl, h1⟩ | ⟨b, rfl⟩ | ⟨p, rfl⟩ | ⟨p, n, c, rfl⟩ | ⟨r, rfl⟩ | ⟨a, b, c, rfl⟩ | rfl <;> simp only [binOp]
theorem binOp_neq {P : Program} {t : TypeId} {u v : Value} (h : eqOK P t u = true) : binOp .neq t u v = (do pure (.bool (!(← Op.equal t u v)))) := by
  rcases eqOK_shape h with ⟨c, rfl, h1⟩ | ⟨b, rfl⟩ | ⟨p, rfl⟩ | ⟨p, n, c, rfl⟩ | ⟨r, rfl⟩ | ⟨a, b, c, rfl⟩ | rfl <;> simp only [binOp]
theorem eqOther_some {P : Program} {t : TypeId} {neg : Bool} {u v r : Value} (e : eqOther P t neg u v = some r) : eqOK P t u = true ∧ ∃ b, eqA P 10000 t u v = some b ∧ r = .bool (cond neg (!b) b) := by
  unfold eqOther at e
  split at e
  · rename_i ho
    split at e
    · rename_i b hb; cases e; exact ⟨ho, b, hb, rfl⟩
    · cases e
  · cases e
theorem bin_eq (P : Program) (t : TypeId) (neg : Bool) : BinS P (cond neg .neq .eql) t (xEq P t neg) := by
  intro u v r e
  unfold xEq at e
  split at e
  · refine bin_cmp (f := fun a b => cond neg (!(eqI a b)) (eqI a b)) (fun k a b w => ?_) _ _ _ e
    cases neg <;> simp [binOp, Op.intCmp, eqI_eq] <;> rfl
  · rename_i a
    split at e
    · rename_i b
      cases e
      refine ⟨rfl, fun σ u' v' x y hu hv w => ?_⟩
      rw [hu.of_plain (by rfl), hv.of_plain (by rfl)]
      refine ⟨guard_str _ _ _ _ _ _ _, ?_⟩
      rw [eqBytes_eq]
      cases neg <;> simp [binOp, Op.stringOp, ByteArray.toList_eq]
    · cases e
  · obtain ⟨ho, b, hb, rfl⟩ := eqOther_some e
    refine ⟨rfl, fun σ u' v' x y hu hv w => ⟨guard_other (eqOK_real ho hu) w, ?_⟩⟩
    have ho' := eqOK_real ho hu
    have hq := equal_of hb hu hv w
    cases neg
    · simp only [cond, binOp_eql ho', Sem.run_bind, hq, Result.andThen_ok, Sem.run_pure]
    · simp only [cond, binOp_neq ho', Sem.run_bind, hq, Result.andThen_ok, Sem.run_pure]
theorem binX_ok (P : Program) (op : BinOp) (t : TypeId) : BinS P op t (binX P op t).f := by
  cases op with
  | add => exact bin_add P t
  | sub => exact bin_num (by intro k a b w; simp [binOp, Op.intArith, wrapA_eq])
  | mul => exact bin_num (by intro k a b w; simp [binOp, Op.intArith, wrapA_eq])
  | quo => exact bin_div (by intro k a b w h; simp [binOp, Op.intDiv, wrapA_eq, h])
  | rem => exact bin_div (by intro k a b w h; simp [binOp, Op.intDiv, h])
  | and => exact bin_num (by intro k a b w; simp [binOp, intBits_and, bitsA_eq])
  | or => exact bin_num (by intro k a b w; simp [binOp, intBits_or, bitsA_eq])
  | xor => exact bin_num (by intro k a b w; simp [binOp, intBits_xor, bitsA_eq])
  | andNot => exact bin_num (by intro k a b w; simp [binOp, intBits_andNot, bitsA_eq])
  | shl => exact bin_sh (by intro k a k' b w; simp only [binOp, Op.shift, shlA_eq]; rw [if_neg (by omega)]; rfl)
  | shr => exact bin_sh (by intro k a k' b w; simp only [binOp, Op.shift, shrA_eq]; rw [if_neg (by omega)]; rfl)
  | eql => exact bin_eq P t false
  | neq => exact bin_eq P t true
  | lss => exact bin_cmp (by intro k a b w; simp [binOp, Op.intCmp, ltA_eq])
  | leq => exact bin_cmp (by intro k a b w; simp [binOp, Op.intCmp, leA_eq])
  | gtr => exact bin_cmp (by intro k a b w; simp [binOp, Op.intCmp, ltA_eq])
  | geq => exact bin_cmp (by intro k a b w; simp [binOp, Op.intCmp, leA_eq])
theorem s_binOp (P : Program) (op : BinOp) (t : TypeId) (x y : Operand) (c : TypeId) : OpS P (.binOp op t x y c) (xBin P op t x y).f := by
  intro fr sup h r e hf
  have e' : oBin (binX P op t).f ((evX x).f fr) ((evX y).f fr) sup h = some r := e
  unfold oBin at e'
  split at e'
  · rename_i xv hxv
    split at e'
    · rename_i yv hyv
      obtain ⟨u, hu, rfl⟩ := pureO_some e'
      obtain ⟨hp, hs⟩ := binX_ok P op t xv yv u hu
      refine ⟨abs_pure _ _ _ _, fun o ho σ a w hx hr hd hg K Q hK => ?_⟩
      obtain ⟨g1, g2⟩ := hs σ _ _ x y (hx x (by simp [Op.operands]) _ hxv) (hx y (by simp [Op.operands]) _ hyv) w
      refine wp_value (v := u) (w' := w) ?_ (hK _ _ (post_pure hd (.plain hp)))
      simp only [execOp, ho, Sem.run_bind, g1, g2, Result.andThen_ok, Sem.run_pure]
    · cases e'
  · cases e'
end Go.Ev
