import Derived.Test.YthdpmpfchmcklaaGreatDoorEvDraw2
namespace Go.Ev
open Go.RowKit
section
variable {P : Program} {ops : Array Oper} {call : CallF} {tr : List SR} {fin : State} {base : Nat} {σ0 : Sig} {w0 : World} {Q : Exit → Act → World → Prop}

theorem Inv.start (c : Tc P ops call tr fin) {σ : Sig} {a : Act} {w : World} (hst : St P σ (stAt tr fin 0).fr (stAt tr fin 0).sup (stAt tr fin 0).h a w) (ht : Tr (fun b => (∃ s ∈ tr, b ∈ s.rc.wr ∧ b < base) ∨ base ≤ b) σ0 σ (stAt tr fin 0).sup fin.sup w0 w) :
    Inv P ops tr fin base σ0 w0 (fun _ => False) σ a w := by
  have hcut : ∀ i, i ≤ ops.size → σ.le (cut σ (stAt tr fin i).sup) := fun i hi b m hb => cut_some.2 ⟨by have := hst.dom b m hb; have := c.mono (i := 0) (j := i) (by omega) hi; omega, hb⟩
  have none_before : ∀ {b i : Nat}, (∀ j s, tr[j]? = some s → Tch s b → (False ↔ j < i)) → ∀ k s, tr[k]? = some s → 0 ≤ k → k < i → ¬ Tch s b := fun hc k s hk _ h2 h3 => (hc k s hk h3).2 h2
  have hget : ∀ {b i : Nat}, i ≤ ops.size → (∀ j s, tr[j]? = some s → Tch s b → (False ↔ j < i)) → (stAt tr fin i).h.get b = (stAt tr fin 0).h.get b := fun hi hc => c.keepH (by omega) hi (none_before hc)
  refine ⟨fun _ _ _ h => h.elim, hst.fr.n, hst.df, fun t i hi hc => ?_, fun b i hi hc m k hm hk => ?_, fun b1 b2 i1 i2 hi1 hi2 c1 c2 m1 m2 k1 k2 e1 e2 g1 g2 he => ?_, fun b m hb => .inl (hst.dom b m hb), hst.gl.mono (hcut 0 (by omega)), ht⟩
  · have hk := c.keepF (t := t) (i := 0) (j := i) (by omega) hi fun k o hk _ h2 hd => (hc k o hk hd).2 h2
    intro u hu
    rw [hk] at hu
    obtain ⟨u', h1, h2⟩ := hst.fr.s t u hu
    exact ⟨u', h1, h2.mono (hcut i hi)⟩
  · rw [hget hi hc] at hk
    exact (hst.hr.blk b m k trivial hm hk).mono (hcut i hi)
  · rw [hget hi1 c1] at g1
    rw [hget hi2 c2] at g2
    exact hst.hr.inj b1 b2 m1 m2 k1 k2 trivial trivial e1 e2 g1 g2 he
theorem Inv.finish (c : Tc P ops call tr fin) {L : Nat → Prop} {σ : Sig} {a : Act} {w : World} (v : Inv P ops tr fin base σ0 w0 L σ a w) (hall : ∀ i, i < ops.size → L i) :
    RPost P base σ0 (stAt tr fin 0).sup w0 fin.fr fin.sup fin.h (fun b => ∃ s ∈ tr, b ∈ s.rc.wr ∧ b < base) a w := by
  have hfin : stAt tr fin ops.size = fin := by simp [stAt, c.len]
  have hcond : ∀ {p : Nat → Prop} (j : Nat) (s : SR), tr[j]? = some s → (L j ↔ j < ops.size) := by
    intro p j s hj
    have hlt : j < ops.size := by rw [← c.len]; exact (List.getElem?_eq_some_iff.1 hj).1
    exact ⟨fun _ => hlt, fun _ => hall j hlt⟩
  refine ⟨σ, v.tran, ⟨⟨?_, fun t => ?_⟩, ⟨fun b m k _ hm hk => ?_, fun b1 b2 m1 m2 k1 k2 _ _ e1 e2 g1 g2 he => ?_⟩, fun b m hb => ?_, v.gl.mono (cut_le _ _), v.df⟩⟩
  · have := c.frn ops.size (Nat.le_refl _)
    rw [hfin] at this
    rw [this]; exact v.n
  · have := v.slot t ops.size (Nat.le_refl _) fun j o hj _ => by
      have hlt : j < ops.size := (Array.getElem?_eq_some_iff.1 hj).1
      exact ⟨fun _ => hlt, fun _ => hall j hlt⟩
    rw [hfin] at this
    exact this.mono (cut_le _ _)
  · have := v.blk b ops.size (Nat.le_refl _) (fun j s hj _ => hcond (p := fun _ => True) j s hj) m k hm (by rw [hfin]; exact hk)
    exact this.mono (cut_le _ _)
  · exact v.inj b1 b2 ops.size ops.size (Nat.le_refl _) (Nat.le_refl _) (fun j s hj _ => hcond (p := fun _ => True) j s hj) (fun j s hj _ => hcond (p := fun _ => True) j s hj) m1 m2 k1 k2 e1 e2 (by rw [hfin]; exact g1) (by rw [hfin]; exact g2) he
  · rcases v.dom b m hb with h1 | ⟨j, s, hj, _, _, h2⟩
    · have := c.mono (i := 0) (j := ops.size) (by omega) (Nat.le_refl _)
      rw [hfin] at this; omega
    · have hlt : j < ops.size := by rw [← c.len]; exact (List.getElem?_eq_some_iff.1 hj).1
      have := c.mono (i := j + 1) (j := ops.size) (by omega) (Nat.le_refl _)
      rw [c.next hj, hfin] at this
      simp only at this; omega
def Lof (listed : Array Bool) : Nat → Prop := fun i => listed.getD i false = true
theorem Lof_set {listed : Array Bool} {i : Nat} (hi : i < listed.size) (j : Nat) : Lof (listed.setIfInBounds i true) j ↔ (Lof listed j ∨ j = i) := by
  unfold Lof
  by_cases h : i = j
  · subst h; simp [hi]
  · rw [getD_set_ne false h]
    simp [Ne.symm h]
theorem Inv.iff {L L' : Nat → Prop} {σ : Sig} {a : Act} {w : World} (v : Inv P ops tr fin base σ0 w0 L σ a w) (h : ∀ j, L' j ↔ L j) : Inv P ops tr fin base σ0 w0 L' σ a w := by
  have : L' = L := by funext j; exact propext (h j)
  rw [this]; exact v
theorem wp_any (c : Tc P ops call tr fin) (hbase : base ≤ (stAt tr fin 0).sup)
    (hQ : ∀ a' w', RPost P base σ0 (stAt tr fin 0).sup w0 fin.fr fin.sup fin.h (fun b => ∃ s ∈ tr, b ∈ s.rc.wr ∧ b < base) a' w' → Q .normal a' w') :
    ∀ (fuel : Nat) (listed : Array Bool) (σ : Sig) (a : Act) (w : World), listed.size = ops.size → listed.toList.count false ≤ fuel → Inv P ops tr fin base σ0 w0 (Lof listed) σ a w → wpAny P .any ops Q fuel listed a w := by
  have all_of_ready : ∀ (listed : Array Bool), listed.size = ops.size → Region.ready .any ops listed = [] → ∀ n i, i < n → i < ops.size → Lof listed i := by
    intro listed hsz hr n
    induction n with
    | zero => intro i h; omega
    | succ n ih =>
      intro i h hi
      by_cases hl : Lof listed i
      · exact hl
      · exfalso
        have hm : i ∈ Region.ready .any ops listed := by
          rw [mem_ready]
          refine ⟨?_, ops[i], Array.getElem?_eq_getElem hi, fun e he hb => ?_⟩
          · unfold Lof at hl
            have hil : i < listed.size := by omega
            simp [hil] at hl ⊢
            exact hl
          · have hlt := drawOK_back c.dr i ops[i] (by simp [hi]) e (by simpa using he) hb
            exact ih e.on (by omega) (by omega)
        rw [hr] at hm; cases hm
  intro fuel
  induction fuel with
  | zero =>
    intro listed σ a w hsz hcnt v
    have hall : ∀ i, i < ops.size → Lof listed i := by
      intro i hi
      have h0 : listed.toList.count false = 0 := by omega
      have hnm := List.count_eq_zero.1 h0
      have hil : i < listed.size := by omega
      unfold Lof
      have : listed[i] ≠ false := fun e => hnm (by rw [← e]; simp)
      simp [hil]
      simpa using this
    refine ⟨?_, hQ a w (v.finish c hall)⟩
    unfold Region.ready
    rw [List.filter_eq_nil_iff]
    intro i hi
    rw [List.mem_range] at hi
    have := hall i hi
    have hil : i < listed.size := by omega
    unfold Lof at this
    simp [hil] at this
    simp [hil, this]
  | succ fuel ih =>
    intro listed σ a w hsz hcnt v
    refine ⟨fun hr => hQ a w (v.finish c fun i hi => all_of_ready listed hsz hr (i + 1) i (by omega) hi), fun i hi => ?_⟩
    obtain ⟨hun, o, ho, hdeps⟩ := mem_ready.1 hi
    have hi' : i < ops.size := (Array.getElem?_eq_some_iff.1 ho).1
    have hil : i < listed.size := by omega
    obtain ⟨s, hs⟩ := c.sr hi'
    have hL : ¬ Lof listed i := by
      unfold Lof
      simp [hil] at hun ⊢
      exact hun
    have hready : ∀ e ∈ o.after.toList, Region.binds .any e = true → Lof listed e.on := fun e he hb => hdeps e (by simpa using he) hb
    refine step_wp c.good (c.st ho hs) (c.gls ho) (c.hfs hs) (fun t ht => ?_) ⟨fun b m k hb hm hk => ?_, fun b1 b2 m1 m2 k1 k2 s1 s2 e1 e2 g1 g2 he => ?_⟩ (fun b m hb => (cut_some.1 hb).1) ?_ ho (σ := cut σ s.sup) fun v' w' hp => ?_
    · have := v.slot t i (by omega) fun j oj hj hd => by
        by_cases hne : j = i
        · subst hne; exact ⟨fun h => absurd h hL, fun h => by omega⟩
        · exact c.slotOrd v ho hready hL hj hne hd (.inl ht)
      rw [c.at_ hs] at this
      exact this
    · have := v.blk b i (by omega) (c.ftCond v ho hs hready hL hb hm) m k (cut_some.1 hm).2 (by rw [c.at_ hs]; exact hk)
      rw [c.at_ hs] at this
      exact this
    · exact v.inj b1 b2 i i (by omega) (by omega) (c.ftCond v ho hs hready hL s1 e1) (c.ftCond v ho hs hready hL s2 e2) m1 m2 k1 k2 (cut_some.1 e1).2 (cut_some.1 e2).2 (by rw [c.at_ hs]; exact g1) (by rw [c.at_ hs]; exact g2) he
    · have hU0 : (stAt tr fin 0).sup ≤ s.sup := by have := c.mono (i := 0) (j := i) (by omega) (by omega); rwa [c.at_ hs] at this
      exact v.gl.mono (cut_mono (Sig.le_refl _) hU0)
    · obtain ⟨σ', v'⟩ := v.step c hbase ho hs hready hL hp
      refine ih (listed.setIfInBounds i true) σ' _ _ (by simp [hsz]) ?_ (v'.iff fun j => Lof_set hil j)
      have hset : (listed.setIfInBounds i true).toList = listed.toList.set i true := by simp
      rw [hset, List.count_set (by simpa using hil)]
      have hge : listed.toList[i]'(by simpa using hil) = false := by
        simp [hil] at hun
        simpa using hun
      have hpos : 0 < listed.toList.count false := List.count_pos_iff.2 (by rw [← hge]; exact List.getElem_mem _)
      rw [hge, show ((false : Bool) == false) = true from rfl, show ((true : Bool) == false) = false from rfl]
      simp only [if_true, Bool.false_eq_true, if_false]
      omega
end
end Go.Ev
