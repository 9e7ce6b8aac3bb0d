import Derived.Test.YthdpmpfchmcklaaGreatDoorEvOp8
import Derived.Test.YthdpmpfchmcklaaGreatDoorEvOp2
namespace Go.Ev
open Go.RowKit

theorem bf_copy {P : Program} {ts : Array TypeId} {d x : Value} {sup : Nat} {h : Heap} {r : R} (hf : HF h sup) (e : copyA P ts.toList d x sup h = some r) : BfS P .copy ts [d, x] sup h r := by
  unfold copyA at e
  split at e
  · rename_i t tr base dl dc hts
    have hts0 : ts[0]? = some t := by rw [← Array.getElem?_toList, hts]; rfl
    split at e
    · rename_i el hU
      split at e
      · rename_i n xl hn hxl
        rw [forceN_eq] at e
        have done : ∀ {v' : Value} {w w' : World} {ty : TypeId} {cs : Array Bool} {s' x' : Value}, (Builtin.copy_ ts ty #[s', x']).run P w = .ok v' w' → (builtin .copy ts ty cs [s', x'].toArray).run P w = .ok (.value v') w' := by
          intro v' w w' ty cs s' x' hrun
          simp [builtin, hrun]
        -- the real copy
        have run : ∀ (w w' : World) (ty : TypeId) (base' : Option Addr) (dc' : Nat) (x' : Value) (news : List Value), (Builtin.lenOf x').run P w = .ok xl w → (Builtin.firstCells n (Nat.min xl dl) x').run P w = .ok news.toArray w →
            (match base' with | some a => (storeCells a news).run P w = .ok () w' | none => w' = w) → (Builtin.copy_ ts ty #[.slice base' dl dc', x']).run P w = .ok (.int .i64 (Nat.min xl dl : Int)) w' := by
          intro w w' ty base' dc' x' news h1 h2 h3
          cases base' with
          | none =>
            simp only at h3
            subst h3
            simp [Builtin.copy_, hts0, run_underlying hU, h1, szA_run hn, h2, goInt]
          | some a => 
            simp only at h3
            simp [Builtin.copy_, hts0, run_underlying hU, h1, szA_run hn, h2, h3, goInt]
        cases hm0 : Nat.beq (Nat.min xl dl) 0 with
        | true =>
          have hm0' := Nat.eq_of_beq_eq_true hm0
          rw [hm0] at e
          cases e
          refine ⟨abs_pure _ _ _ _, fun σ args' w ty cs ha hr hd => ?_⟩
          obtain ⟨d', dd, rfl, hdv, ha2⟩ := ha.head
          obtain ⟨x', dd', rfl, hx, ha3⟩ := ha2.head
          obtain rfl := ha3.of_nil
          obtain ⟨base', dc', e1, _⟩ := hdv.any_slice
          rw [e1]
          have hx0 : (Builtin.firstCells n (Nat.min xl dl) x').run P w = .ok ([] : List Value).toArray w := by
            rw [hm0']
            unfold lenA at hxl
            split at hxl
            · obtain ⟨p', c', e2, _⟩ := hx.any_slice
              rw [e2]
              cases p' with
              | none => simp [Builtin.firstCells]
              | some ad => exact run_firstCells_some (P := P) w n 0 ad _ c' [] (by simp) (by simp)
            · rename_i s0
              rw [hx.of_plain (by rfl)]
              simp only [Builtin.firstCells, Sem.run_pure]
              congr 1
              apply Array.ext'
              obtain ⟨⟨d⟩⟩ := s0
              simp [ByteArray.data_extract]
            · cases hxl
          have := run w w ty base' dc' x' [] (lenA_real hxl hx w) hx0 (by cases base' <;> simp [storeCells])
          rw [hm0'] at this
          exact ⟨.int .i64 0, w, done this, post_pure hd (.plain rfl)⟩
        | false =>
          rw [hm0] at e
          simp only [cond] at e
          have hm1 : Nat.min xl dl ≠ 0 := by intro h0; rw [h0] at hm0; simp at hm0
          split at e
          · rename_i news fx hsrc
            split at e
            · rename_i b o
              have ce := cond_some e; clear e; obtain ⟨hl, e⟩ := ce
              split at e
              · rename_i h' hw
                cases e
                obtain ⟨k, hk, hle, h1, rfl⟩ := wrt_some hw
                refine ⟨abs_write hf hk (by simp), fun σ args' w ty cs ha hr hd => ?_⟩
                obtain ⟨d', dd, rfl, hdv, ha2⟩ := ha.head
                obtain ⟨x', dd', rfl, hx, ha3⟩ := ha2.head
                obtain rfl := ha3.of_nil
                obtain ⟨mm, o', c', hσ, e1, q1, q2, q3⟩ := hdv.of_slice
                rcases q3 with ⟨rfl, q3⟩ | ⟨z1, z2, z3⟩
                · obtain ⟨news', hn1, hn2⟩ := srcA_real (P := P) hsrc hxl (Nat.min_le_left _ _) hx (fun b' hb mm k e1 e2 => hr.blk b' mm k (by simp [inFt, hb]) e1 e2)
                  have hB := hr.blk b mm k (by simp [inFt]) hσ hk
                  have hst := store_run (P := P) hB (o := o) (vs' := news') (by rw [← hn1.1]; exact hle) (hn1.one h1)
                  rw [e1]
                  have := run w _ ty (some ⟨mm.blk, mm.sh + o, none⟩) c' x' news' (lenA_real hxl hx w) (hn2 w rfl) hst
                  exact ⟨_, _, done this, post_write hd hr (by simp) hσ hk hle hn1 (.plain rfl)⟩
                · exfalso
                  have : Nat.min xl dl ≤ dl := Nat.min_le_right _ _
                  omega
              · cases e
            · cases e
          · cases e
      · cases e
    · cases e
  · cases e
theorem bf_clear {P : Program} {ts : Array TypeId} {x : Value} {sup : Nat} {h : Heap} {r : R} (hf : HF h sup) (e : clearA P ts.toList x sup h = some r) : BfS P .clear ts [x] sup h r := by
  unfold clearA at e
  split at e
  · rename_i t tr base n c hts
    have hts0 : ts[0]? = some t := by rw [← Array.getElem?_toList, hts]; rfl
    split at e
    · rename_i el hU
      cases hn0 : Nat.beq n 0 with
      | true =>
        have hn0' := Nat.eq_of_beq_eq_true hn0
        subst hn0'
        rw [hn0] at e
        cases e
        refine ⟨abs_pure _ _ _ _, fun σ args' w ty cs ha hr hd => ?_⟩
        obtain ⟨x', dd', rfl, hx, ha3⟩ := ha.head
        obtain rfl := ha3.of_nil
        obtain ⟨p', c', e1, _⟩ := hx.any_slice
        rw [e1]
        refine ⟨.tuple #[], w, ?_, post_pure hd (.tuple rfl fun i v v' h => by simp at h)⟩
        cases p' <;> simp [builtin, Builtin.clear_, hts0, run_underlying hU]
      | false =>
        rw [hn0] at e
        simp only [cond] at e
        have hn1 : n ≠ 0 := by intro h0; subst h0; simp at hn0
        split at e
        · rename_i b o z hz
          split at e
          · rename_i h' hw
            cases e
            obtain ⟨k, hk, hle, h1, rfl⟩ := wrt_some hw
            obtain ⟨i, zv, hi, hzv, rfl, hpl⟩ := zeroA_some hz
            refine ⟨abs_write hf hk (by simp), fun σ args' w ty cs ha hr hd => ?_⟩
            obtain ⟨x', dd', rfl, hx, ha3⟩ := ha.head
            obtain rfl := ha3.of_nil
            obtain ⟨mm, o', c', hσ, e1, q1, q2, q3⟩ := hx.of_slice
            rcases q3 with ⟨rfl, q3⟩ | ⟨z1, z2, z3⟩
            · have hB := hr.blk b mm k (by simp [inFt]) hσ hk
              have hzz : LR σ (zerosOf zv.cells.toList n) (zerosOf zv.cells.toList n) := LR.refl_plain (zerosOf_plain hpl n)
              have hst := store_run (P := P) hB (o := o) (vs' := zerosOf zv.cells.toList n) hle h1
              rw [e1]
              have hzc : (Builtin.zeroCells zv.cells n).toList = zerosOf zv.cells.toList n := by
                by_cases h0 : 0 < zv.cells.size
                · exact zeroCells_made _ _ h0
                · have : zv.cells.size = 0 := by omega
                  have h3 : zv.cells = #[] := Array.eq_empty_of_size_eq_zero this
                  rw [h3]
                  apply List.ext_getElem?
                  intro i
                  rw [List.getElem?_eq_none (by simp [Builtin.zeroCells]), List.getElem?_eq_none (by rw [zerosOf_length]; simp)]
              refine ⟨.tuple #[], w.setCells mm.blk (mm.sh + o) (zerosOf zv.cells.toList n), ?_, post_write hd hr (by simp) hσ hk hle hzz (.tuple rfl fun i v v' h => by simp at h)⟩
              cases n with
              | zero => exact absurd rfl hn1
              | succ n => simp [builtin, Builtin.clear_, hts0, run_underlying hU, zeroValue, typeInfo, hi, hzv, hzc, hst]
            · omega
          · cases e
        · cases e
    · cases e
  · cases e
theorem bf_pure {P : Program} {b : Builtin} {ts : Array TypeId} {args : List Value} {sup : Nat} {h : Heap} {v : Value} (hv : plain v = true) (hrun : ∀ (σ : Sig) (args' : List Value) (w : World) (ty : TypeId) (cs : Array Bool), LR σ args args' → (builtin b ts ty cs args'.toArray).run P w = .ok (.value v) w) :
    BfS P b ts args sup h ⟨v, sup, h, [], some []⟩ :=
  ⟨abs_pure _ _ _ _, fun σ args' w ty cs ha _ hd => ⟨v, w, hrun σ args' w ty cs ha, post_pure hd (.plain hv)⟩⟩
theorem bf_len {P : Program} {ts : Array TypeId} {x : Value} {n : Nat} {sup : Nat} {h : Heap} (e : lenOfA P ts.toList x = some n) : BfS P .len ts [x] sup h ⟨.int .i64 (.ofNat n), sup, h, [], some []⟩ := by
  refine bf_pure rfl fun σ args' w ty cs ha => ?_
  obtain ⟨x', dd', rfl, hx, ha3⟩ := ha.head
  obtain rfl := ha3.of_nil
  unfold lenOfA at e
  split at e
  · rename_i t hts
    have hts' : ts = #[t] := by apply Array.ext'; simpa using hts
    subst hts'
    split at e
    · rename_i s hU
      cases e
      rw [hx.of_plain (by rfl)]
      simp [builtin, Builtin.len_, run_underlying hU, goInt]
    · rename_i hU
      cases e
      simp [builtin, Builtin.len_, run_underlying hU, goInt]
    · rename_i hU
      cases e
      obtain ⟨p', c', e1, _⟩ := hx.any_slice
      rw [e1]
      simp [builtin, Builtin.len_, run_underlying hU, goInt]
    · cases e
  · cases e
theorem mmA_some {mx : Bool} : ∀ {l : List Value} {v r : Value}, mmA mx v l = some r → ∃ k a, v = .int k a ∧ plain r = true ∧ (∀ u ∈ l, ∃ b, u = .int k b) ∧
    ∀ {P : Program} (w : World), (l.foldlM (if mx then Builtin.max2 else Builtin.min2) v).run P w = .ok r w
  | [], v, r, h => by
    cases v <;> simp [mmA] at h
    subst h
    exact ⟨_, _, rfl, rfl, by simp, fun w => by simp⟩
  | u :: l, v, r, h => by
    cases v <;> cases u <;> simp only [mmA] at h <;> (try cases h)
    rename_i k a k' b
    have ch := cond_some h; clear h; obtain ⟨hk, h⟩ := ch
    have := kix_inj hk; subst this
    obtain ⟨k2, a2, e1, hp, hall, hrun⟩ := mmA_some h
    cases e1
    refine ⟨_, _, rfl, hp, fun u hu => ?_, fun w => ?_⟩
    · rcases List.mem_cons.1 hu with rfl | hu
      · exact ⟨_, rfl⟩
      · exact hall u hu
    · have hr := hrun (P := ‹Program›) w
      cases mx
      · simp only [Bool.false_eq_true, if_false] at hr ⊢
        rw [List.foldlM_cons, Sem.run_bind]
        have : (Builtin.min2 (.int k a) (.int k b)).run ‹Program› w = .ok (.int k (if b < a then b else a)) w := by simp [Builtin.min2]
        rw [this]
        simp only [Result.andThen_ok]
        have e2 : (cond (ltA b a) b a) = if b < a then b else a := by
          rw [ltA_eq]; by_cases hq : b < a <;> simp [hq]
        simp only [cond_false, e2] at hr
        exact hr
      · simp only [if_true] at hr ⊢
        rw [List.foldlM_cons, Sem.run_bind]
        have : (Builtin.max2 (.int k a) (.int k b)).run ‹Program› w = .ok (.int k (if b > a then b else a)) w := by simp [Builtin.max2]
        rw [this]
        simp only [Result.andThen_ok]
        have e2 : (cond (ltA a b) b a) = if b > a then b else a := by
          rw [ltA_eq]; by_cases hq : a < b <;> simp [hq]
        simp only [cond_true, e2] at hr
        exact hr
theorem LR.of_ints' {σ : Sig} {k : IntKind} : ∀ {l l' : List Value}, LR σ l l' → (∀ u ∈ l, ∃ b, u = .int k b) → l' = l
  | [], l', h, _ => h.of_nil
  | u :: l, l', h, hu => by
    obtain ⟨u', d, rfl, h1, h2⟩ := h.head
    obtain ⟨b, rfl⟩ := hu u (by simp)
    rw [h1.of_plain (by rfl), LR.of_ints' h2 fun u hu' => hu u (by simp [hu'])]
theorem bf_max {P : Program} {ts : Array TypeId} {v r : Value} {l : List Value} {sup : Nat} {h : Heap} (e : mmA true v l = some r) : BfS P .max ts (v :: l) sup h ⟨r, sup, h, [], some []⟩ := by
  obtain ⟨k, a, rfl, hp, hall, hrun⟩ := mmA_some e
  refine bf_pure hp fun σ args' w ty cs ha => ?_
  rw [LR.of_ints' ha (k := k) (fun u hu => by
    rcases List.mem_cons.1 hu with rfl | hu
    · exact ⟨_, rfl⟩
    · exact hall u hu)]
  have := hrun (P := P) w
  simp only [if_true] at this
  simp [builtin, Builtin.max_, this]
theorem bf_min {P : Program} {ts : Array TypeId} {v r : Value} {l : List Value} {sup : Nat} {h : Heap} (e : mmA false v l = some r) : BfS P .min ts (v :: l) sup h ⟨r, sup, h, [], some []⟩ := by
  obtain ⟨k, a, rfl, hp, hall, hrun⟩ := mmA_some e
  refine bf_pure hp fun σ args' w ty cs ha => ?_
  rw [LR.of_ints' ha (k := k) (fun u hu => by
    rcases List.mem_cons.1 hu with rfl | hu
    · exact ⟨_, rfl⟩
    · exact hall u hu)]
  have := hrun (P := P) w
  simp only [Bool.false_eq_true, if_false] at this
  simp [builtin, Builtin.min_, this]
theorem bf_ok {P : Program} {b : Builtin} {ts : Array TypeId} {args : List Value} {sup : Nat} {h : Heap} {r : R} (hf : HF h sup) (e : builtinA P b ts.toList args sup h = some r) : BfS P b ts args sup h r := by
  unfold builtinA at e
  split at e
  · exact bf_append hf e
  · exact bf_copy hf e
  · exact bf_clear hf e
  · split at e
    · rename_i n hn; cases e; exact bf_len hn
    · cases e
  · split at e
    · rename_i n hn; cases e; exact bf_max hn
    · cases e
  · split at e
    · rename_i n hn; cases e; exact bf_min hn
    · cases e
  · cases e
theorem s_callB (P : Program) (c : Call) : OpS P (.call c) (callBX P c).f := by
  obtain ⟨callee, args, ts⟩ := c
  intro fr sup h r e hf
  cases callee with
  | builtin b =>
    have e' : oBuiltin P b ts.toList ((evsX args.toList).f fr) sup h = some r := e
    unfold oBuiltin at e'
    split at e'
    · rename_i l hl
      obtain ⟨habs, hs⟩ := bf_ok hf e'
      refine ⟨habs, fun o ho σ a w hx hr hd hg K Q hK => ?_⟩
      have h1 := evsX_some hl (fun x hm => hx x (by simpa [Op.operands, Call.operands] using hm))
      obtain ⟨cs, hex⟩ := builtin_exec (P := P) ho w (a := a)
      obtain ⟨v', w', hrun, hp⟩ := hs σ (args.toList.map a.eval) w o.type cs h1 hr hd
      have : (args.toList.map a.eval).toArray = args.map a.eval := by apply Array.ext'; simp
      rw [this] at hrun
      exact wp_value (hex.trans hrun) (hK _ _ hp)
    · cases e'
  | value f => exact nomatch (show (none : Option R) = some r from e)
  | invoke x n => exact nomatch (show (none : Option R) = some r from e)
theorem opX_ok (P : Program) (op : Op) : OpS P op (opX P op).f := by
  have no : ∀ op', OpS P op' (fun _ _ _ => none) := fun op' fr sup h r e => nomatch e
  cases op with
  | move x => exact s_move P x
  | assign x => exact s_assign P x
  | pick c a b => exact s_pick P c a b
  | alloc e => exact s_alloc P e
  | box e x => exact s_box P e x
  | build t p => exact s_build P t p
  | buildSlice t n p => exact s_buildSlice P t n p
  | load t x => exact s_load P t x
  | store t x y => exact s_store P t x y
  | nilCheck x => exact s_nilCheck P x
  | binOp op t x y c => exact s_binOp P op t x y c
  | unOp op t x => exact s_unOp P op t x
  | convert s d x => exact s_convert P s d x
  | makeFunc fn f c => exact s_makeFunc P fn f c
  | makeSlice t l c => exact s_makeSlice P t l c
  | slice t x lo hi mx => exact s_slice P t x lo hi mx
  | fieldAddr s x f => exact s_fieldAddr P s x f
  | field t x f => exact s_field P t x f
  | indexAddr t x i => exact s_indexAddr P t x i
  | index t x i => exact s_index P t x i
  | extract x i => exact s_extract P x i
  | call c => exact s_callB P c
  | _ => exact no _
end Go.Ev
