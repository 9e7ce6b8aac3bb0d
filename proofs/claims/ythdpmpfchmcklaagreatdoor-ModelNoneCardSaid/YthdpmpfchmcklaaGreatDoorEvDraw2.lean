import Derived.Test.YthdpmpfchmcklaaGreatDoorEvDraw
namespace Go.Ev
open Go.RowKit
section
variable {P : Program} {ops : Array Oper} {call : CallF} {tr : List SR} {fin : State} {base : Nat} {σ0 : Sig} {w0 : World} {L : Nat → Prop} {σ : Sig} {a : Act} {w : World}

/-- what must be ordered is -/
theorem Tc.slotOrd (c : Tc P ops call tr fin) (v : Inv P ops tr fin base σ0 w0 L σ a w) {i0 : Nat} {o : Oper} (ho : ops[i0]? = some o) (hready : ∀ e ∈ o.after.toList, Region.binds .any e = true → L e.on) (hL : ¬ L i0)
    {j : Nat} {oj : Oper} (hj : ops[j]? = some oj) (hne : j ≠ i0) {t : Tmp} (hd : oj.dst = some t) (hl : t ∈ o.looksAt ops ∨ o.dst = some t) : L j ↔ j < i0 := by
  refine ordB_spec (drawOK_back c.dr) v.closed (fun o' ho' => ?_) hL hne ?_
  · rw [Array.getElem?_toList, ho] at ho'; cases ho'; exact hready
  · rcases Nat.lt_or_ge i0 j with h | h
    · rcases drawOK_apart c.dr (i := i0) (j := j) (x := o) (y := oj) (by simpa using ho) (by simpa using hj) h with h1 | h1
      · exact .inl h1
      · obtain ⟨p1, p2, p3⟩ := Oper.apart_spec h1
        rcases hl with hl | hl
        · exact absurd hl (p3 t hd)
        · exact absurd hd (p2 t hl)
    · rcases drawOK_apart c.dr (i := j) (j := i0) (x := oj) (y := o) (by simpa using hj) (by simpa using ho) (by omega) with h1 | h1
      · exact .inr h1
      · obtain ⟨p1, p2, p3⟩ := Oper.apart_spec h1
        rcases hl with hl | hl
        · exact absurd hl (p1 t hd)
        · exact absurd hl (p2 t hd)
theorem rc_at {i : Nat} {s : SR} (h : tr[i]? = some s) : ((tr.map (·.rc)).reverse).reverse[i]? = some s.rc := by simp [h]
/-- who writes what operation i0 looks at, or made, is ordered with it -/
theorem Tc.blkOrd (c : Tc P ops call tr fin) (v : Inv P ops tr fin base σ0 w0 L σ a w) {i0 : Nat} {o : Oper} {s : SR} (ho : ops[i0]? = some o) (hs : tr[i0]? = some s) (hready : ∀ e ∈ o.after.toList, Region.binds .any e = true → L e.on) (hL : ¬ L i0)
    {j : Nat} {sj : SR} (hj : tr[j]? = some sj) (hne : j ≠ i0) {b : Nat} (hb : b ∈ sj.rc.wr) (hl : inFt s.rc.ft b ∨ (s.sup ≤ b ∧ b < s.sup')) : L j ↔ j < i0 := by
  refine ordB_spec (drawOK_back c.dr) v.closed (fun o' ho' => ?_) hL hne (.inr ?_)
  · rw [Array.getElem?_toList, ho] at ho'; cases ho'; exact hready
  · rcases recsOK_spec c.rcs (rc_at hj) (rc_at hs) hne hb with h1 | ⟨h1, h2⟩
    · exact h1
    · obtain ⟨_, e1, e2⟩ := c.abs hs
      rw [e1, e2] at h2
      rcases hl with hl | hl
      · exact absurd hl h1
      · exact absurd hl h2
/-- the blocks that operation i0 looks at stand as in the text's order -/
theorem Tc.ftCond (c : Tc P ops call tr fin) (v : Inv P ops tr fin base σ0 w0 L σ a w) {i0 : Nat} {o : Oper} {s : SR} (ho : ops[i0]? = some o) (hs : tr[i0]? = some s) (hready : ∀ e ∈ o.after.toList, Region.binds .any e = true → L e.on) (hL : ¬ L i0)
    {b : Nat} {m : BM} (hb : inFt s.rc.ft b) (hm : cut σ s.sup b = some m) : ∀ j sj, tr[j]? = some sj → Tch sj b → (L j ↔ j < i0) := by
  intro j sj hj ht
  obtain ⟨hlt, hσ⟩ := cut_some.1 hm
  by_cases hne : j = i0
  · subst hne
    exact ⟨fun h => absurd h hL, fun h => by omega⟩
  · rcases ht with ht | ht
    · exact c.blkOrd v ho hs hready hL hj hne ht (.inl hb)
    · -- made by j
      have hji : j < i0 := by
        rcases Nat.lt_or_ge j i0 with h | h
        · exact h
        · have h1 := c.mono_s hs hj (by omega)
          have h2 := (c.abs hs).1.le
          simp only at h2
          omega
      refine ⟨fun _ => hji, fun _ => ?_⟩
      rcases v.dom b m hσ with h1 | ⟨j', s', hj', hl', h1, h2⟩
      · have h3 := c.mono (i := 0) (j := j) (by omega) (by have := (List.getElem?_eq_some_iff.1 hj).1; rw [← c.len]; omega)
        rw [c.at_ hj] at h3
        simp only at h3
        omega
      · rcases Nat.lt_trichotomy j j' with h | h | h
        · have h3 := c.mono_s hj hj' h; omega
        · subst h; exact hl'
        · have h3 := c.mono_s hj' hj h; omega
/-- One operation more. -/
theorem Inv.step (c : Tc P ops call tr fin) (v : Inv P ops tr fin base σ0 w0 L σ a w) (hbase : base ≤ (stAt tr fin 0).sup) {i0 : Nat} {o : Oper} {s : SR} (ho : ops[i0]? = some o) (hs : tr[i0]? = some s)
    (hready : ∀ e ∈ o.after.toList, Region.binds .any e = true → L e.on) (hL : ¬ L i0) {v' : Value} {w' : World} (hp : Post (cut σ s.sup) s.sup ⟨s.v, s.sup', s.h', s.rc.wr, s.rc.ft⟩ w v' w') :
    ∃ σ', Inv P ops tr fin base σ0 w0 (fun j => L j ∨ j = i0) σ' (a.put o.dst v') w' := by
  obtain ⟨σ1, t1, hv1, hr1⟩ := hp
  simp only at t1 hv1 hr1
  obtain ⟨habs, hlo, hhi⟩ := c.abs hs
  have hi0 : i0 < ops.size := (Array.getElem?_eq_some_iff.1 ho).1
  have hle : s.sup ≤ s.sup' := habs.le
  have hU0 : (stAt tr fin 0).sup ≤ s.sup := by have := c.mono (i := 0) (j := i0) (by omega) (by omega); rwa [c.at_ hs] at this
  have hUn : s.sup' ≤ fin.sup := by
    have := c.mono (i := i0 + 1) (j := ops.size) (by omega) (Nat.le_refl _)
    rw [c.next hs] at this
    simpa [stAt, c.len] using this
  -- no one made these numbers before
  have fresh : ∀ b, s.sup ≤ b → b < s.sup' → σ b = none := by
    intro b h1 h2
    cases hb : σ b with
    | none => rfl
    | some m =>
      exfalso
      rcases v.dom b m hb with h3 | ⟨j', s', hj', hl', h3, h4⟩
      · omega
      · have hne : j' ≠ i0 := fun e => hL (e ▸ hl')
        rcases Nat.lt_or_ge j' i0 with h | h
        · have := c.mono_s hj' hs h; omega
        · have := c.mono_s hs hj' (by omega); omega
  let σ' : Sig := fun b => if s.sup ≤ b ∧ b < s.sup' then σ1 b else σ b
  have hσ'in : ∀ b, s.sup ≤ b → b < s.sup' → σ' b = σ1 b := fun b h1 h2 => if_pos ⟨h1, h2⟩
  have hσ'out : ∀ b, ¬ (s.sup ≤ b ∧ b < s.sup') → σ' b = σ b := fun b h => if_neg h
  have hσσ' : σ.le σ' := by
    intro b m hb
    by_cases h : s.sup ≤ b ∧ b < s.sup'
    · rw [fresh b h.1 h.2] at hb; cases hb
    · rw [hσ'out b h]; exact hb
  have hσ1 : ∀ b m, σ1 b = some m → b < s.sup' ∧ σ' b = some m := by
    intro b m hb
    rcases t1.new b m hb with h | ⟨h1, h2, _⟩
    · obtain ⟨h1, h2⟩ := cut_some.1 h
      refine ⟨by omega, ?_⟩
      rw [hσ'out b (by omega)]; exact h2
    · exact ⟨h2, by rw [hσ'in b h1 h2]; exact hb⟩
  have hσ1cut : ∀ n, s.sup' ≤ n → σ1.le (cut σ' n) := fun n hn b m hb => cut_some.2 ⟨by have := (hσ1 b m hb).1; omega, (hσ1 b m hb).2⟩
  -- the numbers that it wrote stand as in the text's order
  have wrCond : ∀ b m, b ∈ s.rc.wr → cut σ s.sup b = some m → ∀ j sj, tr[j]? = some sj → Tch sj b → (L j ↔ j < i0) := fun b m hb hm => c.ftCond v ho hs hready hL (habs.ft b hb) hm
  -- a number that it touched, in the new state
  have tchCond : ∀ b i, i ≤ ops.size → Tch s b → (∀ j sj, tr[j]? = some sj → Tch sj b → ((L j ∨ j = i0) ↔ j < i)) → i0 < i ∧ (stAt tr fin i).h.get b = s.h'.get b := by
    intro b i hi ht hcond
    have h1 : i0 < i := (hcond i0 s hs ht).1 (.inr rfl)
    refine ⟨h1, ?_⟩
    have hk := c.keepH (b := b) (i := i0 + 1) (j := i) (by omega) hi fun k sk hk h2 h3 htk => ?_
    · rw [hk, c.next hs]
    · have hne : k ≠ i0 := by omega
      have hLk : L k := ((hcond k sk hk htk).2 h3).resolve_right hne
      rcases htk with htk | htk
      · have h4 : inFt s.rc.ft b ∨ (s.sup ≤ b ∧ b < s.sup') := ht.imp (fun q => habs.ft b q) id
        have := (c.blkOrd v ho hs hready hL hk hne htk h4).1 hLk
        omega
      · have h5 := c.mono_s hs hk (by omega)
        rcases ht with ht | ht
        · have := (habs.live b ht).1; omega
        · omega
  have outCond : ∀ b i, ¬ Tch s b → (∀ j sj, tr[j]? = some sj → Tch sj b → ((L j ∨ j = i0) ↔ j < i)) → ∀ j sj, tr[j]? = some sj → Tch sj b → (L j ↔ j < i) := by
    intro b i hn hcond j sj hj ht
    have hne : j ≠ i0 := by
      intro e; subst e
      rw [hs] at hj; cases hj; exact hn ht
    exact ⟨fun h => (hcond j sj hj ht).1 (.inl h), fun h => ((hcond j sj hj ht).2 h).resolve_right hne⟩
  have tchσ : ∀ b m, Tch s b → σ' b = some m → σ1 b = some m := by
    intro b m ht hb
    rcases ht with ht | ht
    · have hlt := (habs.live b ht).1
      rw [hσ'out b (by omega)] at hb
      exact t1.le b m (cut_some.2 ⟨hlt, hb⟩)
    · rw [hσ'in b ht.1 ht.2] at hb; exact hb
  have outσ : ∀ b m, ¬ Tch s b → σ' b = some m → σ b = some m := by
    intro b m hn hb
    rwa [hσ'out b fun q => hn (.inr q)] at hb
  -- a block that it did not touch has not moved under its hands
  have apartB : ∀ b i m k, i ≤ ops.size → ¬ Tch s b → (∀ j sj, tr[j]? = some sj → Tch sj b → (L j ↔ j < i)) → σ b = some m → (stAt tr fin i).h.get b = some k → ∀ b' m', b' ∈ s.rc.wr → cut σ s.sup b' = some m' → m'.blk ≠ m.blk := by
    intro b i m k hi hn hcond hb hk b' m' hb' hm' he
    obtain ⟨_, k', hk'⟩ := habs.live b' hb'
    have := v.inj b' b i0 i (by omega) hi (wrCond b' m' hb' hm') hcond m' m k' k (cut_some.1 hm').2 hb (by rw [c.at_ hs]; exact hk') hk he
    subst this
    exact hn (.inl hb')
  refine ⟨σ', ⟨?_, ?_, ?_, ?_, ?_, ?_, ?_, ?_, ?_⟩⟩
  · intro j oj hj hl e he hb
    rcases hl with hl | rfl
    · exact .inl (v.closed j oj hj hl e he hb)
    · rw [Array.getElem?_toList, ho] at hj; cases hj
      exact .inl (hready e he hb)
  · rw [v.n, (put_tmps a o.dst v' 0).1]
  · rw [(put_tmps a o.dst v' 0).2.1]; exact v.df
  · intro t i hi hcond
    by_cases hd : o.dst = some t
    · have h1 : i0 < i := (hcond i0 o ho hd).1 (.inr rfl)
      have hk := c.keepF (t := t) (i := i0 + 1) (j := i) (by omega) hi fun k ok hk h2 h3 hdk => by
        have hne : k ≠ i0 := by omega
        have hLk : L k := ((hcond k ok hk hdk).2 h3).resolve_right hne
        have := (c.slotOrd v ho hready hL hk hne hdk (.inr hd)).1 hLk
        omega
      have hsup : s.sup' ≤ (stAt tr fin i).sup := by
        have := c.mono (i := i0 + 1) (j := i) (by omega) hi
        rwa [c.next hs] at this
      intro u hu
      rw [hk, c.next hs] at hu
      obtain ⟨p1, p2, p3⟩ := putX_some (c.st ho hs).put
      rw [p3, if_pos hd] at hu
      cases hu
      obtain ⟨_, _, q⟩ := put_tmps a o.dst v' t
      have hn : s.fr.n = a.tmps.size := by
        have := c.frn i0 (by omega)
        rw [c.at_ hs] at this
        rw [this]; exact v.n
      rw [q, if_pos ⟨hd, by rw [← hn]; exact p2 t hd⟩]
      exact ⟨v', rfl, hv1.mono (hσ1cut _ hsup)⟩
    · have hold := v.slot t i hi fun j oj hj hdj => by
        have hne : j ≠ i0 := by
          intro e; subst e
          rw [ho] at hj; cases hj; exact hd hdj
        exact ⟨fun h => (hcond j oj hj hdj).1 (.inl h), fun h => ((hcond j oj hj hdj).2 h).resolve_right hne⟩
      intro u hu
      obtain ⟨u', h1, h2⟩ := hold u hu
      obtain ⟨_, _, q⟩ := put_tmps a o.dst v' t
      rw [q, if_neg fun e => hd e.1]
      exact ⟨u', h1, h2.mono (cut_mono hσσ' (Nat.le_refl _))⟩
  · intro b i hi hcond m k hm hk
    by_cases ht : Tch s b
    · obtain ⟨h1, h2⟩ := tchCond b i hi ht hcond
      rw [h2] at hk
      have hB := hr1.blk b m k (ht.imp (fun q => habs.ft b q) fun q => q.1) (tchσ b m ht hm) hk
      refine hB.mono (hσ1cut _ ?_)
      have := c.mono (i := i0 + 1) (j := i) (by omega) hi
      rwa [c.next hs] at this
    · have hcond' := outCond b i ht hcond
      have hm' := outσ b m ht hm
      have hB := v.blk b i hi hcond' m k hm' hk
      exact (hB.mono (cut_mono hσσ' (Nat.le_refl _))).keep (t1.fr.keep m.blk hB.lt fun b' m' hb' hw => apartB b i m k hi ht hcond' hm' hk b' m' hw hb')
  · intro b1 b2 i1 i2 hi1 hi2 c1 c2 m1 m2 k1 k2 e1 e2 g1 g2 he
    -- one touched, one not
    have mixed : ∀ b1 b2 i1 i2 m1 m2 k1 k2, i1 ≤ ops.size → i2 ≤ ops.size → Tch s b1 → ¬ Tch s b2 → (∀ j s, tr[j]? = some s → Tch s b1 → ((L j ∨ j = i0) ↔ j < i1)) → (∀ j s, tr[j]? = some s → Tch s b2 → ((L j ∨ j = i0) ↔ j < i2)) →
        σ' b1 = some m1 → σ' b2 = some m2 → (stAt tr fin i1).h.get b1 = some k1 → (stAt tr fin i2).h.get b2 = some k2 → m1.blk ≠ m2.blk := by
      intro b1 b2 i1 i2 m1 m2 k1 k2 hi1 hi2 ht1 ht2 c1 c2 e1 e2 _ g2 he
      have c2' := outCond b2 i2 ht2 c2
      have e2' := outσ b2 m2 ht2 e2
      have hap := apartB b2 i2 m2 k2 hi2 ht2 c2' e2' g2
      rcases t1.new b1 m1 (tchσ b1 m1 ht1 e1) with h | ⟨h1, h2, h3⟩
      · rcases ht1 with ht1 | ht1
        · exact hap b1 m1 ht1 h he
        · have := (cut_some.1 h).1; omega
      · rcases h3 with h3 | ⟨b0, m0, h4, h5, h6⟩
        · have := (v.blk b2 i2 hi2 c2' m2 k2 e2' g2).lt; omega
        · exact hap b0 m0 h5 h4 (h6.trans he)
    by_cases ht1 : Tch s b1
    · by_cases ht2 : Tch s b2
      · obtain ⟨_, q1⟩ := tchCond b1 i1 hi1 ht1 c1
        obtain ⟨_, q2⟩ := tchCond b2 i2 hi2 ht2 c2
        rw [q1] at g1; rw [q2] at g2
        exact hr1.inj b1 b2 m1 m2 k1 k2 (ht1.imp (fun q => habs.ft b1 q) fun q => q.1) (ht2.imp (fun q => habs.ft b2 q) fun q => q.1) (tchσ b1 m1 ht1 e1) (tchσ b2 m2 ht2 e2) g1 g2 he
      · exact absurd he (mixed b1 b2 i1 i2 m1 m2 k1 k2 hi1 hi2 ht1 ht2 c1 c2 e1 e2 g1 g2)
    · by_cases ht2 : Tch s b2
      · exact absurd he.symm (mixed b2 b1 i2 i1 m2 m1 k2 k1 hi2 hi1 ht2 ht1 c2 c1 e2 e1 g2 g1)
      · exact v.inj b1 b2 i1 i2 hi1 hi2 (outCond b1 i1 ht1 c1) (outCond b2 i2 ht2 c2) m1 m2 k1 k2 (outσ b1 m1 ht1 e1) (outσ b2 m2 ht2 e2) g1 g2 he
  · intro b m hb
    by_cases h : s.sup ≤ b ∧ b < s.sup'
    · exact .inr ⟨i0, s, hs, .inr rfl, h.1, h.2⟩
    · rw [hσ'out b h] at hb
      rcases v.dom b m hb with h1 | ⟨j, sj, h1, h2, h3⟩
      · exact .inl h1
      · exact .inr ⟨j, sj, h1, .inl h2, h3⟩
  · exact v.gl.mono (cut_mono hσσ' (Nat.le_refl _))
  · have t2 : Tr (fun b => b ∈ s.rc.wr) σ σ' (stAt tr fin 0).sup fin.sup w w' := by
      refine ⟨hσσ', fun b m hb => ?_, ⟨t1.fr.os, t1.fr.tape, t1.fr.output, t1.fr.size, fun x hx hc => t1.fr.keep x hx fun b m e f => hc b m (cut_some.1 e).2 f⟩⟩
      by_cases h : s.sup ≤ b ∧ b < s.sup'
      · rw [hσ'in b h.1 h.2] at hb
        rcases t1.new b m hb with h1 | ⟨_, _, h3⟩
        · have := (cut_some.1 h1).1; omega
        · exact .inr ⟨by omega, by omega, h3.imp id fun ⟨b0, m0, e, f, g⟩ => ⟨b0, m0, (cut_some.1 e).2, f, g⟩⟩
      · rw [hσ'out b h] at hb; exact .inl hb
    refine (v.tran.mix t2).sub fun b m hb hq => ?_
    rcases hq with hq | hq | hq
    · exact hq
    · by_cases hlt : b < base
      · exact .inl ⟨s, List.mem_of_getElem? hs, hq, hlt⟩
      · exact .inr (by omega)
    · exact .inr (by omega)
end
end Go.Ev
