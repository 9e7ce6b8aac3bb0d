import Derived.Test.YthdpmpfchmcklaaGreatDoorEvOp6
import Derived.Test.YthdpmpfchmcklaaGreatDoorEvOp3
namespace Go.Ev
open Go.RowKit

/-! #### built-in functions -/
section
variable {P : Program}
theorem app_grow (w : World) (t tx ty e : TypeId) (i : TypeInfo) (z : Value) (ht : P.underlying t = some (.slice e)) (htx : P.underlying tx = some .string ∨ ∃ e', P.underlying tx = some (.slice e')) (hi : P.info? e = some i) (hz : i.zero = some z)
    (base : Option Addr) (sLen sCap : Nat) (olds : List Value) (hold : ∀ w', w'.heap = w.heap → (Builtin.firstCells i.size sLen (.slice base sLen sCap)).run P w' = .ok olds.toArray w')
    (x : Value) (m : Nat) (news : List Value) (hlen : ∀ w', (Builtin.lenOf x).run P w' = .ok m w') (hnew : ∀ w', w'.heap = w.heap → (Builtin.firstCells i.size m x).run P w' = .ok news.toArray w')
    (hg : sCap < sLen + m) (h63 : ((sLen + m : Nat) : Int) ≤ 9223372036854775807) (hfit : Builtin.nextslicecap (sLen + m) sCap * i.bytes ≤ 281474976710656) :
    (Builtin.append_ #[t, tx] ty #[.slice base sLen sCap, x]).run P w =
      .ok (.slice (some ⟨w.heap.size, 0, none⟩) (sLen + m) (grownCap w (sLen + m) sCap e))
        (w.drew.alloc (.cells (olds.toArray ++ news.toArray ++ Builtin.zeroCells z.cells (grownCap w (sLen + m) sCap e - (sLen + m))) e)) := by
  have hn : ¬ (sLen + m ≤ sCap) := by omega
  have h63' : ¬ (9223372036854775807 < ((sLen : Int) + (m : Int))) := by omega
  have h48' : ¬ (281474976710656 < Builtin.nextslicecap (sLen + m) sCap * i.bytes) := by omega
  have hf := hnew w.drew rfl
  have hfo := hold w.drew rfl
  rcases htx with hd1 | ⟨e', hd1⟩ <;>
  · simp [Builtin.append_, run_underlying ht, run_underlying hd1, sizeOf, typeInfo, zeroValue, hi, hz, hlen, hn, h63', h48', Question.forced, hf, hfo, newRow, grownCap]
    congr 2
    apply Array.ext'
    simp [List.append_assoc]
theorem app_room (w : World) (t tx ty e : TypeId) (i : TypeInfo) (ht : P.underlying t = some (.slice e)) (htx : P.underlying tx = some .string ∨ ∃ e', P.underlying tx = some (.slice e')) (hi : P.info? e = some i)
    (ad : Addr) (sLen sCap : Nat) (x : Value) (m : Nat) (news : List Value) (hlen : ∀ w', (Builtin.lenOf x).run P w' = .ok m w') (hnew : (Builtin.firstCells i.size m x).run P w = .ok news.toArray w)
    (hg : sLen + m ≤ sCap) (w' : World) (hst : (storeCells (ad.add (sLen * i.size)) news).run P w = .ok () w') :
    (Builtin.append_ #[t, tx] ty #[.slice (some ad) sLen sCap, x]).run P w = .ok (.slice (some ad) (sLen + m) sCap) w' := by
  rcases htx with hd1 | ⟨e', hd1⟩ <;>
  simp [Builtin.append_, run_underlying ht, run_underlying hd1, sizeOf, typeInfo, hi, hlen, hg, hnew, hst]
theorem app_nil (w : World) (t tx ty e : TypeId) (i : TypeInfo) (ht : P.underlying t = some (.slice e)) (htx : P.underlying tx = some .string ∨ ∃ e', P.underlying tx = some (.slice e')) (hi : P.info? e = some i)
    (x : Value) (news : List Value) (hlen : ∀ w', (Builtin.lenOf x).run P w' = .ok 0 w') (hnew : (Builtin.firstCells i.size 0 x).run P w = .ok news.toArray w) :
    (Builtin.append_ #[t, tx] ty #[.slice none 0 0, x]).run P w = .ok (.slice none 0 0) w := by
  rcases htx with hd1 | ⟨e', hd1⟩ <;>
  simp [Builtin.append_, run_underlying ht, run_underlying hd1, sizeOf, typeInfo, hi, hlen, hnew]

/-- the operation of a built-in function -/
theorem builtin_exec {o : Oper} {a : Act} {b : Builtin} {args : Array Operand} {ts : Array TypeId} (ho : o.op = .call { callee := .builtin b, args := args, argTypes := ts }) (w : World) :
    ∃ cs, (execOp a.eval o).run P w = (builtin b ts o.type cs (args.map a.eval)).run P w := by
  refine ⟨args.map fun | .const _ => true | _ => false, ?_⟩
  simp only [execOp, ho, resolve, invoke, Sem.run_bind, Sem.run_pure, Result.andThen_ok]
  refine congrArg (fun c => (builtin b ts o.type (args.map c) (args.map a.eval)).run P w) ?_
  funext x
  cases x <;> rfl
end

theorem lenA_real {P : Program} {σ : Sig} {x x' : Value} {m : Nat} (h : lenA x = some m) (hx : VR σ x x') (w : World) : (Builtin.lenOf x').run P w = .ok m w := by
  unfold lenA at h
  split at h
  · cases h
    obtain ⟨p', c', e1, _⟩ := hx.any_slice
    rw [e1]; simp [Builtin.lenOf]
  · cases h
    rw [hx.of_plain (by rfl)]; simp [Builtin.lenOf]
  · cases h
theorem srcA_real {P : Program} {σ : Sig} {x x' : Value} {m q n : Nat} {h : Heap} {l : List Value} {fx : List Nat} {w : World} (e : srcA h x m n = some (l, fx)) (hq : lenA x = some q) (hmq : m ≤ q) (hx : VR σ x x')
    (hr : ∀ b, b ∈ fx → ∀ mm k, σ b = some mm → h.get b = some k → BR σ mm k w) :
    ∃ l', LR σ l l' ∧ ∀ w', w'.heap = w.heap → (Builtin.firstCells n m x').run P w' = .ok l'.toArray w' := by
  unfold srcA at e
  split at e
  · obtain ⟨h0, h1⟩ := cond_some e
    cases h1
    rw [hx.of_plain (by rfl)]
    exact ⟨[], LR.nil, fun w' _ => by simp [Builtin.firstCells]⟩
  · rename_i b o ln c
    cases hq
    cases hm : Nat.beq m 0 with
    | true =>
      rw [hm] at e; cases e
      have hm0 : m = 0 := Nat.eq_of_beq_eq_true hm
      subst hm0
      obtain ⟨ad', c', e1⟩ := hx.some_slice
      rw [e1]
      refine ⟨[], LR.nil, fun w' _ => ?_⟩
      have := run_firstCells_some (P := P) w' n 0 ad' q c' [] (by simp) (by simp)
      exact this
    | false =>
      rw [hm] at e
      simp only [cond] at e
      split at e
      · rename_i l0 hl
        cases e
        have hm0 : m ≠ 0 := by intro h0; subst h0; simp at hm
        obtain ⟨mm, o', c', hσ, e1, _, _, hcap⟩ := hx.of_slice
        rcases hcap with ⟨rfl, _⟩ | ⟨h0, _, _⟩
        · obtain ⟨l', h1, _, h3, h4, _⟩ := rd_run (P := P) hl hσ (fun k hk => hr b (by simp) mm k hσ hk)
          refine ⟨l', h1, fun w' hw' => ?_⟩
          rw [e1]
          exact run_firstCells_some (P := P) w' n m ⟨mm.blk, mm.sh + o, none⟩ q c' l' h3 (fun j v hv => by
            rw [Addr.add_lit]
            have := h4 j v hv
            simpa [World.cell?, hw'] using this)
        · omega
      · cases e
  · rename_i s
    obtain ⟨h0, h1⟩ := cond_some e
    cases h1
    rw [hx.of_plain (by rfl)]
    refine ⟨(strL s).take m, LR.refl_plain ?_, fun w' _ => ?_⟩
    · rw [List.all_eq_true]
      intro v hv
      exact List.all_eq_true.1 (strL_plain s) v (List.mem_of_mem_take hv)
    · have : ((s.extract 0 m).data.map fun b => Value.int .u8 b.toNat) = ((strL s).take m).toArray := by
        apply Array.ext'
        obtain ⟨⟨d⟩⟩ := s
        simp [strL, ByteArray.data_extract, Array.toList_extract, List.extract, List.map_take]
      simp only [Builtin.firstCells, Sem.run_pure, this]
  · cases e
theorem okSrc_type {P : Program} {t tx e : TypeId} {x : Value} {n : Nat} (h : okSrc P t tx x n = true) (ht : P.underlying t = some (.slice e)) : P.underlying tx = some .string ∨ ∃ e', P.underlying tx = some (.slice e') := by
  unfold okSrc at h
  split at h
  · simp only [Bool.and_eq_true] at h
    obtain ⟨h1, _⟩ := h
    split at h1
    · rename_i hu; exact .inl hu
    · cases h1
  · have := Nat.eq_of_beq_eq_true h
    subst this
    exact .inr ⟨_, ht⟩

/-- the operation's value, its world -/
theorem zeroCells_made (z : Array Value) (n : Nat) (hz : 0 < z.size) : (Builtin.zeroCells z n).toList = zerosOf z.toList n := by
  unfold Builtin.zeroCells
  have := zerosOf_made z n hz
  rw [this]

theorem post_inplace {σ : Sig} {sup : Nat} {h : Heap} {w : World} {b o len cap size mm : Nat} {k : Blk} {m : BM} {olds news news' : List Value} {ft : List Nat} (hd : Dom σ sup) (hr : HR (inFt (some ft)) σ h w) (hb : b ∈ ft)
    (hm : σ b = some m) (hk : h.get b = some k) (hsize : m.esz = size) (hg0 : size ≠ 0) (hend : o + cap * m.esz = m.asz) (hroom : len + mm ≤ cap + m.ext) (_hfull : cap < len + mm) (hlc : len ≤ cap)
    (hol : olds.length = len * size) (holds : ∀ j, j < olds.length → k.cs.get (o + j) = olds[j]?) (hnl : news.length = mm * size) (hnews : LR σ news news') :
    Post σ sup ⟨.slice (some ⟨sup, 0, none⟩) (len + mm) (len + mm), sup + 1, (h.put b none).put sup (some ⟨wrN (olds ++ news) .nil 0, (olds ++ news).length, k.elem, size⟩), [b], some ft⟩ w
      (.slice (some ⟨m.blk, m.sh + o, none⟩) (len + mm) (cap + m.ext)) (w.setCells m.blk (m.sh + o + len * size) news') := by
  obtain ⟨r1, r2, r3, r4⟩ := setCells_rest m.blk news' (m.sh + o + len * size) w
  obtain ⟨rs, fz, hh, ha, hrz, hg1, hg2, hc, hfz⟩ := hr.blk b m k hb hm hk
  have hnl' : news'.length = mm * size := by rw [← hnews.1, hnl]
  subst hsize
  have e1 : (cap + m.ext) * m.esz = cap * m.esz + m.ext * m.esz := Nat.add_mul _ _ _
  have e2 : (len + mm) * m.esz = len * m.esz + mm * m.esz := Nat.add_mul _ _ _
  have e3 : (len + mm) * m.esz ≤ (cap + m.ext) * m.esz := Nat.mul_le_mul_right _ hroom
  have e4 : len * m.esz ≤ cap * m.esz := Nat.mul_le_mul_right _ hlc
  obtain ⟨rs', q1, q2, q3⟩ := setCells_heap m.blk news' (m.sh + o + len * m.esz) w rs k.elem fz hh (by rw [hnl', hrz]; omega)
  have hle := sigPut_le hd ⟨m.blk, m.sh + o, (len + mm) * m.esz, m.esz, cap + m.ext - (len + mm)⟩
  have hlen : (olds ++ news).length = (len + mm) * m.esz := by rw [List.length_append, hol, hnl, e2]
  have hnew : BR (sigPut σ sup ⟨m.blk, m.sh + o, (len + mm) * m.esz, m.esz, cap + m.ext - (len + mm)⟩) ⟨m.blk, m.sh + o, (len + mm) * m.esz, m.esz, cap + m.ext - (len + mm)⟩ ⟨wrN (olds ++ news) .nil 0, (olds ++ news).length, k.elem, m.esz⟩
      (w.setCells m.blk (m.sh + o + len * m.esz) news') := by
    refine ⟨rs', fz, q1, hlen.symm, ?_, fun h => absurd h hg0, fun _ => rfl, fun i x hi hx => ?_, fun i hi => hfz i (by rw [q2] at hi; exact hi)⟩
    · rw [q2, hrz]
      simp only [hlen]
      rw [Nat.sub_mul]
      omega
    · simp only [hlen] at hi
      simp only [new_get] at hx
      rw [q3]
      by_cases hi2 : i < olds.length
      · rw [List.getElem?_append_left hi2] at hx
        rw [if_neg (by simp only; omega)]
        obtain ⟨v', a1, a2⟩ := hc (o + i) x (by omega) (by rw [holds i hi2]; exact hx)
        exact ⟨v', by rw [Nat.add_assoc]; exact a1, a2.mono hle⟩
      · rw [List.getElem?_append_right (by omega)] at hx
        rw [if_pos (by simp only; omega)]
        obtain ⟨v', a1, a2⟩ := hnews.get hx
        refine ⟨v', ?_, a2.mono hle⟩
        simp only
        rw [show m.sh + o + i - (m.sh + o + len * m.esz) = i - olds.length by omega]
        exact a1
  have ht : Tr (· ∈ [b]) σ (sigPut σ sup ⟨m.blk, m.sh + o, (len + mm) * m.esz, m.esz, cap + m.ext - (len + mm)⟩) sup (sup + 1) w (w.setCells m.blk (m.sh + o + len * m.esz) news') := by
    refine ⟨hle, fun c mc hc => ?_, ⟨r1, r2, r3, by omega, fun x _ hx => setCells_far m.blk news' _ w x (fun e => hx b m hm (by simp) e.symm)⟩⟩
    unfold sigPut at hc
    split at hc
    · rename_i he; subst he; cases hc; exact .inr ⟨Nat.le_refl _, by omega, .inr ⟨b, m, hm, by simp, rfl⟩⟩
    · exact .inl hc
  refine ⟨_, ht, ?_, ?_⟩
  · have := VR.slice (o := 0) (n := len + mm) (c := len + mm) (c' := cap + m.ext) (sigPut_at σ sup ⟨m.blk, m.sh + o, (len + mm) * m.esz, m.esz, cap + m.ext - (len + mm)⟩) (Nat.le_refl _) (.inr ⟨by simp, by simp only; omega⟩)
    simpa using this
  · have oldf : ∀ c mc kc, (c ∈ ft ∨ sup ≤ c) → c ≠ sup → sigPut σ sup ⟨m.blk, m.sh + o, (len + mm) * m.esz, m.esz, cap + m.ext - (len + mm)⟩ c = some mc →
        ((h.put b none).put sup (some ⟨wrN (olds ++ news) .nil 0, (olds ++ news).length, k.elem, m.esz⟩)).get c = some kc → c ∈ ft ∧ σ c = some mc ∧ h.get c = some kc ∧ c ≠ b := by
      intro c mc kc hs hne hmc hkc
      rw [T.get_put, if_neg hne, T.get_put] at hkc
      unfold sigPut at hmc; rw [if_neg hne] at hmc
      have := hd c mc hmc
      by_cases hcb : c = b
      · rw [if_pos hcb] at hkc; cases hkc
      · rw [if_neg hcb] at hkc
        exact ⟨hs.resolve_right (by omega), hmc, hkc, hcb⟩
    refine ⟨fun c mc kc hs hmc hkc => ?_, fun b1 b2 m1 m2 k1 k2 s1 s2 f1 f2 g1 g2 he => ?_⟩
    · by_cases hc : c = sup
      · subst hc
        rw [T.get_put, if_pos rfl] at hkc; cases hkc
        rw [sigPut_at] at hmc; cases hmc
        exact hnew
      · obtain ⟨o1, o2, o3, o4⟩ := oldf c mc kc hs hc hmc hkc
        exact ((hr.blk c mc kc o1 o2 o3).mono hle).keep (setCells_far _ _ _ _ _ fun e => o4 (hr.inj c b mc m kc k o1 hb o2 hm o3 hk e))
    · by_cases c1 : b1 = sup
      · by_cases c2 : b2 = sup
        · rw [c1, c2]
        · obtain ⟨o1, o2, o3, o4⟩ := oldf b2 m2 k2 s2 c2 f2 g2
          subst c1; rw [sigPut_at] at f1; cases f1
          exact absurd (hr.inj b2 b m2 m k2 k o1 hb o2 hm o3 hk he.symm) o4
      · obtain ⟨p1, p2, p3, p4⟩ := oldf b1 m1 k1 s1 c1 f1 g1
        by_cases c2 : b2 = sup
        · subst c2; rw [sigPut_at] at f2; cases f2
          exact absurd (hr.inj b1 b m1 m k1 k p1 hb p2 hm p3 hk he) p4
        · obtain ⟨o1, o2, o3, o4⟩ := oldf b2 m2 k2 s2 c2 f2 g2
          exact hr.inj b1 b2 m1 m2 k1 k2 p1 o1 p2 o2 p3 o3 he
end Go.Ev
