import Derived.Test.YthdpmpfchmcklaaGreatDoorEvReg
namespace Go.Ev
open Go.RowKit

/-! ### Code -/
def exR : AEx → Exit → Prop
  | .normal, .normal => True
  | .exit i, .exit j => j = i
  | .ret, .ret => True
  | _, _ => False
def OutQ (P : Program) (base : Nat) (σ : Sig) (sup : Nat) (w : World) (out : Out) (e : Exit) (a' : Act) (w' : World) : Prop :=
  exR out.ex e ∧ RPost P base σ sup w out.fr out.sup out.h (· ∈ out.lg) a' w'
def CodeGood (P : Program) (base : Nat) (c : Code) (fr : Frm) (sup : Nat) (h : Heap) (out : Out) : Prop :=
  AbsC base sup h out.sup out.h (· ∈ out.lg) ∧ ∀ σ a w, St P σ fr sup h a w → c.wp P (OutQ P base σ sup w out) a w

theorem wp_loop_n {P : Program} {Q : Exit → Act → World → Prop} {c : Code} {J : Nat → Act → World → Prop} (round : ∀ n a w, J n a w → c.wp P (Exit.then (fun a' w' => ∃ m, m < n ∧ J m a' w') Q) a w) (n : Nat) (a : Act) (w : World) (h : J n a w) : (Code.loop c).wp P Q a w := by
  intro b k cs
  have key : ∀ n a w, J n a w → ∃ e a' w', Q e a' w' ∧ Arrives P (lone (b.at a (.code c :: .inLoop c :: k)) cs w) b k cs e a' w' := by
    intro n
    induction n using Nat.strongRecOn with
    | _ n ih =>
      intro a w hI
      obtain ⟨e, a₁, w₁, hq, harr⟩ := round n a w hI b (.inLoop c :: k) cs
      cases e with
      | normal =>
        obtain ⟨m, hlt, hI₁⟩ := hq
        obtain ⟨e₂, a₂, w₂, hq₂, harr₂⟩ := ih m hlt a₁ w₁ hI₁
        exact ⟨e₂, a₂, w₂, hq₂, .of_steps (Steps.trans harr (.one step_inLoop)) harr₂⟩
      | exit id => exact ⟨_, a₁, w₁, hq, .pass (x := .inLoop c) rfl (fun _ _ => .inl (by simp)) harr⟩
      | goto l => exact ⟨_, a₁, w₁, hq, .pass (x := .inLoop c) rfl (fun _ _ => .inl (by simp)) harr⟩
      | ret => exact ⟨_, a₁, w₁, hq, .pass (x := .inLoop c) rfl (fun _ _ => .inl (by simp)) harr⟩
      | panic ch => exact ⟨_, a₁, w₁, hq, .pass (x := .inLoop c) rfl (fun _ _ => .inl (by simp)) harr⟩
      | outgrown => exact ⟨_, a₁, w₁, hq, .pass (x := .inLoop c) rfl (fun _ _ => .inl (by simp)) harr⟩
  obtain ⟨e, a', w', hq, harr⟩ := key n a w h
  exact ⟨e, a', w', hq, .of_steps (.one step_loop) harr⟩

theorem regEnd_some {chk : List Rec → Bool} {base : Nat} {r : Option Run} {out : Out} (h : regEnd chk base r = some out) : ∃ run, r = some run ∧ chk run.recs = true ∧ out = ⟨.normal, run.fr, run.sup, run.h, lgOf base run.recs⟩ := by
  unfold regEnd at h
  split at h
  · obtain ⟨h1, h2⟩ := cond_some h
    cases h2
    exact ⟨_, rfl, h1, rfl⟩
  · cases h
theorem RPost.iff {P : Program} {base : Nat} {σ : Sig} {sup sup' : Nat} {w : World} {fr' : Frm} {h' : Heap} {L L' : Nat → Prop} {a' : Act} {w' : World} (k : RPost P base σ sup w fr' sup' h' L a' w') (e : ∀ b, L b → L' b) : RPost P base σ sup w fr' sup' h' L' a' w' := by
  obtain ⟨σ', t, s⟩ := k
  exact ⟨σ', t.sub fun b m _ hb => hb.imp (e b) id, s⟩
theorem reg_ok {P : Program} {call : CallF} (hm : P.follows .mixedOrders = true) (hc : GoodC P call) (id : Nat) (ops : Array Oper) (draw : Bool) {n base : Nat} {fr : Frm} {sup : Nat} {h : Heap} {out : Out}
    (e : (regX P ops draw).f call n base fr sup h = some out) (hf : HF h sup) (hb : base ≤ sup) : CodeGood P base (.region id ops draw) fr sup h out := by
  unfold regX at e
  split at e
  · cases e
  · rename_i hgl
    have hgls : ops.toList.all (fun o => o.op.operands.toList.all (glOK P)) = true := hgl
    split at e
    rename_i f hfX
    have hf' : f = (opsX P ops.toList ops.toList).f := by rw [hfX]
    cases draw with
    | true =>
      simp only at e
      split at e
      · rename_i hdr
        obtain ⟨run, h1, h2, rfl⟩ := regEnd_some e
        rw [hf'] at h1
        obtain ⟨tr, ht1, ht2, ht3⟩ := opsX_trace _ _ _ _ _ _ h1
        have habs := trace_abs (base := base) hc _ _ _ _ _ _ _ _ ht1 ht2 hf hb
        have hlg : ∀ b, b ∈ lgOf base run.recs ↔ ∃ s ∈ tr, b ∈ s.rc.wr ∧ b < base := by intro b; rw [ht3]; exact lgOf_mem base tr b
        refine ⟨habs.iff fun b => (hlg b).symm, fun σ a w hst => ?_⟩
        let fin : State := ⟨run.fr, run.sup, run.h⟩
        have hz : stAt tr fin 0 = ⟨fr, sup, h⟩ := chain_zero (fin := fin) ht2
        have c : Tc P ops call tr fin := by
          refine ⟨hc, by rw [steps_len ht1]; simp, fun {i o s} ho hs => steps_at ht1 (by simpa using ho) hs, fun {i s} hs => chain_next (fin := fin) ht2 hs, by rw [hz]; exact hf, fun {i o} ho => ?_, hdr, ?_⟩
          · exact List.all_eq_true.1 hgls o (by
              have := Array.mem_of_getElem? ho
              simpa using this)
          · rw [ht3] at h2; simpa using h2
        refine wp_region_any hm ?_
        have hst' : St P σ (stAt tr fin 0).fr (stAt tr fin 0).sup (stAt tr fin 0).h a { w with drawn := w.drawn + 1 } := by
          rw [hz]
          exact ⟨hst.fr, ⟨fun b m k hs hm hk => (hst.hr.blk b m k hs hm hk).keep rfl, hst.hr.inj⟩, hst.dom, hst.gl, hst.df⟩
        have htr : Tr (fun b => (∃ s ∈ tr, b ∈ s.rc.wr ∧ b < base) ∨ base ≤ b) σ σ (stAt tr fin 0).sup fin.sup w { w with drawn := w.drawn + 1 } := ⟨Sig.le_refl _, fun _ _ h => .inl h, Fr.drew _ _ _ _⟩
        have hinv := Inv.start c hst' htr
        refine wp_any c (by rw [hz]; exact hb) (fun a' w' hp => ?_) ops.size (Array.replicate ops.size false) σ a _ (by simp) ?_ (hinv.iff fun j => ?_)
        · rw [hz] at hp
          exact ⟨trivial, hp.iff fun b hb => (hlg b).2 hb⟩
        · simp
        · unfold Lof
          by_cases hj : j < ops.size
          · simp [hj]
          · simp [hj]
      · cases e
    | false =>
      obtain ⟨run, h1, h2, rfl⟩ := regEnd_some e
      rw [hf'] at h1
      obtain ⟨tr, ht1, ht2, ht3⟩ := opsX_trace _ _ _ _ _ _ h1
      have habs := trace_abs (base := base) hc _ _ _ _ _ _ _ _ ht1 ht2 hf hb
      have hlg : ∀ b, b ∈ lgOf base run.recs ↔ ∃ s ∈ tr, b ∈ s.rc.wr ∧ b < base := by intro b; rw [ht3]; exact lgOf_mem base tr b
      refine ⟨habs.iff fun b => (hlg b).symm, fun σ a w hst => ?_⟩
      refine wp_region ?_
      have := wp_line (Q := OutQ P base σ sup w ⟨.normal, run.fr, run.sup, run.h, lgOf base run.recs⟩) hc ops.toList tr 0 fr run.fr sup run.sup h run.h σ a w (fun i => by simp) hgls ht1 ht2 hf hb hst
        (fun a' w' hp => ⟨trivial, hp.iff fun b hb => (hlg b).2 hb⟩)
      rw [List.range_eq_range']
      simpa using this
theorem evX_bool {P : Program} {x : Operand} {fr : Frm} {t : Bool} (h : (evX x).f fr = some (.bool t)) : glOK P x = true := by
  cases x with
  | global g =>
    have h' : some (Value.pointer (some ⟨g, 0, none⟩)) = some (Value.bool t) := h
    cases h'
  | _ => rfl
theorem seqA_some {base : Nat} {g : Frm → Nat → Heap → Option Out} {o : Option Out} {out : Out} (h : seqA base g o = some out) :
    ∃ o1, o = some o1 ∧ ((∃ o2, o1.ex = .normal ∧ g o1.fr o1.sup o1.h = some o2 ∧ out = ⟨o2.ex, o2.fr, o2.sup, o2.h, out.lg⟩ ∧ ∀ b, b ∈ out.lg ↔ (b ∈ o2.lg ∨ (b ∈ o1.lg ∧ b < base))) ∨ (o1.ex ≠ .normal ∧ out = o1)) := by
  unfold seqA at h
  split at h
  · rename_i ex fr sup hh lg
    refine ⟨_, rfl, ?_⟩
    cases ex with
    | normal =>
      left
      simp only at h
      split at h
      · rename_i lg'
        exact ⟨out, rfl, h, rfl, fun b => by simp⟩
      · rename_i lg' hne
        unfold thenA at h
        split at h
        · rename_i ex' fr' sup' h' lg2 hg
          cases h
          exact ⟨⟨ex', fr', sup', h', lg2⟩, rfl, hg, rfl, fun b => addLg_mem base _ _ b⟩
        · cases h
    | exit id => right; cases h; exact ⟨by simp, rfl⟩
    | ret => right; cases h; exact ⟨by simp, rfl⟩
  · cases h
/-- what comes behind -/
theorem seq_q {P : Program} {base : Nat} {σ : Sig} {sup : Nat} {w : World} {o1 out : Out} {next : Act → World → Prop} {Q : Exit → Act → World → Prop} (hex : o1.ex ≠ .normal) (ho : out = o1) (hQ : ∀ e a' w', OutQ P base σ sup w out e a' w' → Q e a' w') :
    ∀ e a' w', OutQ P base σ sup w o1 e a' w' → Exit.then next Q e a' w' := by
  subst ho
  intro e a' w' hq
  cases e with
  | normal =>
    obtain ⟨h1, _⟩ := hq
    exfalso
    revert h1 hex
    cases out.ex <;> simp [exR]
  | _ => exact hQ _ _ _ hq
theorem OutQ.behind {P : Program} {base : Nat} {σ σ1 : Sig} {sup : Nat} {w w1 : World} {o1 o2 out : Out} (t : Tr (fun b => b ∈ o1.lg ∨ base ≤ b) σ σ1 sup o1.sup w w1) (h1 : sup ≤ o1.sup) (h2 : o1.sup ≤ o2.sup) (hlt : ∀ b ∈ o1.lg, b < base)
    (ho : out = ⟨o2.ex, o2.fr, o2.sup, o2.h, out.lg⟩) (hlg : ∀ b, b ∈ out.lg ↔ (b ∈ o2.lg ∨ (b ∈ o1.lg ∧ b < base))) {e : Exit} {a' : Act} {w' : World} (hq : OutQ P base σ1 o1.sup w1 o2 e a' w') : OutQ P base σ sup w out e a' w' := by
  obtain ⟨q1, q2⟩ := hq
  have := RPost.trans t q2 h1 h2 (L := (· ∈ out.lg)) fun b hb => (hlg b).2 (hb.elim (fun h => .inr ⟨h, hlt b h⟩) .inl)
  rw [ho]
  exact ⟨q1, by rw [ho] at this; exact this⟩
theorem seq_abs {base sup : Nat} {h : Heap} {o1 o2 out : Out} (a1 : AbsC base sup h o1.sup o1.h (· ∈ o1.lg)) (a2 : AbsC base o1.sup o1.h o2.sup o2.h (· ∈ o2.lg)) (ho : out = ⟨o2.ex, o2.fr, o2.sup, o2.h, out.lg⟩) (hlg : ∀ b, b ∈ out.lg ↔ (b ∈ o2.lg ∨ (b ∈ o1.lg ∧ b < base))) :
    AbsC base sup h out.sup out.h (· ∈ out.lg) := by
  have := (a1.trans a2).iff (L' := (· ∈ out.lg)) fun b => by
    rw [hlg]
    constructor
    · rintro (h | h)
      · exact .inr ⟨h, (a1.live b h).1⟩
      · exact .inl h
    · rintro (h | h)
      · exact .inr h
      · exact .inl h.1
  rw [ho]; rw [ho] at this; exact this

theorem codeX_ok {P : Program} {call : CallF} (hm : P.follows .mixedOrders = true) (hc : GoodC P call) : ∀ (c : Code) (n base : Nat) (fr : Frm) (sup : Nat) (h : Heap) (out : Out), (codeX P c).f call n base fr sup h = some out → HF h sup → base ≤ sup → CodeGood P base c fr sup h out := by
  have one : ∀ {ex : AEx} {c : Code} {base : Nat} {fr : Frm} {sup : Nat} {h : Heap} {out : Out}, some (Out.mk ex fr sup h []) = some out → (∀ σ a w, St P σ fr sup h a w → ∀ Q : Exit → Act → World → Prop, (∀ e, exR ex e → Q e a w) → c.wp P Q a w) → CodeGood P base c fr sup h out := by
    intro ex c base fr sup h out e hw
    cases e
    refine ⟨(AbsC.refl _ _ _).iff fun b => by simp, fun σ a w hst => hw σ a w hst _ fun e he => ⟨he, RPost.refl hst⟩⟩
  intro c
  induction c with
  | skip => intro n base fr sup h out e _ _; exact one e fun σ a w _ Q hQ => wp_skip (hQ .normal trivial)
  | exit id => intro n base fr sup h out e _ _; exact one e fun σ a w _ Q hQ => wp_exit (hQ (.exit id) rfl)
  | ret => intro n base fr sup h out e _ _; exact one e fun σ a w _ Q hQ => wp_ret (hQ .ret trivial)
  | region id ops draw => intro n base fr sup h out e hf hb; exact reg_ok hm hc id ops draw e hf hb
  | seq x y ihx ihy =>
    intro n base fr sup h out e hf hb
    have e' : seqA base ((codeX P y).f call n base) ((codeX P x).f call n base fr sup h) = some out := e
    obtain ⟨o1, hx, hcase⟩ := seqA_some e'
    obtain ⟨ax, wx⟩ := ihx n base fr sup h o1 hx hf hb
    rcases hcase with ⟨o2, hex, hy, ho, hlg⟩ | ⟨hex, ho⟩
    · obtain ⟨ay, wy⟩ := ihy n base o1.fr o1.sup o1.h o2 hy (ax.fresh hf) (Nat.le_trans hb ax.le)
      refine ⟨seq_abs ax ay ho hlg, fun σ a w hst => wp_seq (wp_mono (wx σ a w hst) fun e a' w' hq => ?_)⟩
      obtain ⟨q1, σ1, t1, st1⟩ := hq
      rw [hex] at q1
      cases e with
      | normal => exact wp_mono (wy σ1 a' w' st1) fun e2 a2 w2 hq2 => OutQ.behind t1 ax.le ay.le (fun b hb => (ax.live b hb).1) ho hlg hq2
      | _ => exact q1.elim
    · refine ⟨by rw [ho]; exact ax, fun σ a w hst => wp_seq (wp_mono (wx σ a w hst) (seq_q hex ho fun _ _ _ h => h))⟩
  | cond x t f iht ihf =>
    intro n base fr sup h out e hf hb
    have e' : condA ((codeX P t).f call n base) ((codeX P f).f call n base) fr sup h ((evX x).f fr) = some out := e
    unfold condA at e'
    split at e'
    · rename_i b hv
      have real : ∀ σ a w, St P σ fr sup h a w → a.eval x = .bool b := fun σ a w hst => (evS_of (P := P) hst.gl (evX_bool hv) (fun t _ => hst.fr.s t) _ hv).of_plain (by rfl)
      cases b with
      | true =>
        obtain ⟨a1, w1⟩ := iht n base fr sup h out e' hf hb
        exact ⟨a1, fun σ a w hst => wp_cond_true (real σ a w hst) (w1 σ a w hst)⟩
      | false =>
        obtain ⟨a1, w1⟩ := ihf n base fr sup h out e' hf hb
        exact ⟨a1, fun σ a w hst => wp_cond_false (real σ a w hst) (w1 σ a w hst)⟩
    · cases e'
  | block id c ih =>
    intro n base fr sup h out e hf hb
    have e' : blockA id ((codeX P c).f call n base fr sup h) = some out := e
    unfold blockA at e'
    split at e'
    · rename_i ex fr1 sup1 h1 lg1 hx
      obtain ⟨ax, wx⟩ := ih n base fr sup h _ hx hf hb
      cases ex with
      | normal =>
        cases e'
        refine ⟨ax, fun σ a w hst => wp_block (wp_mono (wx σ a w hst) fun e a' w' hq => ?_)⟩
        cases e with
        | normal => exact hq
        | _ => exact hq.1.elim
      | ret =>
        cases e'
        refine ⟨ax, fun σ a w hst => wp_block (wp_mono (wx σ a w hst) fun e a' w' hq => ?_)⟩
        cases e with
        | ret => exact hq
        | _ => exact hq.1.elim
      | exit j =>
        simp only at e'
        cases hj : Nat.beq j id with
        | true =>
          rw [hj] at e'; cases e'
          have hj' := Nat.eq_of_beq_eq_true hj
          subst hj'
          refine ⟨ax, fun σ a w hst => wp_block (wp_mono (wx σ a w hst) fun e a' w' hq => ?_)⟩
          cases e with
          | exit i =>
            obtain ⟨q1, q2⟩ := hq
            have q1' : i = j := q1
            subst q1'
            simp only [Exit.inBlock, if_true]
            exact ⟨trivial, q2⟩
          | _ => exact hq.1.elim
        | false =>
          rw [hj] at e'; cases e'
          refine ⟨ax, fun σ a w hst => wp_block (wp_mono (wx σ a w hst) fun e a' w' hq => ?_)⟩
          cases e with
          | exit i =>
            obtain ⟨q1, q2⟩ := hq
            have q1' : i = j := q1
            subst q1'
            have hne : ¬ i = id := by
              intro he; subst he; simp at hj
            simp only [Exit.inBlock, if_neg hne]
            exact ⟨rfl, q2⟩
          | _ => exact hq.1.elim
    · cases e'
  | loop c ih =>
    intro n base fr sup h out e hf hb
    have e' : loopA base ((codeX P c).f call n base) n fr sup h = some out := e
    have succ : ∀ k fr sup h, loopA base ((codeX P c).f call n base) (k + 1) fr sup h = seqA base (loopA base ((codeX P c).f call n base) k) ((codeX P c).f call n base fr sup h) := fun _ _ _ _ => rfl
    -- the abstract heap
    have abs : ∀ (k : Nat) (fr : Frm) (sup : Nat) (h : Heap) (out : Out), loopA base ((codeX P c).f call n base) k fr sup h = some out → HF h sup → base ≤ sup → AbsC base sup h out.sup out.h (· ∈ out.lg) := by
      intro k
      induction k with
      | zero => intro fr sup h out e; cases (show (none : Option Out) = some out from e)
      | succ k ihk =>
        intro fr sup h out e hf hb
        rw [succ] at e
        obtain ⟨o1, hx, hcase⟩ := seqA_some e
        obtain ⟨ax, _⟩ := ih n base fr sup h o1 hx hf hb
        rcases hcase with ⟨o2, hex, hy, ho, hlg⟩ | ⟨hex, ho⟩
        · exact seq_abs ax (ihk _ _ _ _ hy (ax.fresh hf) (Nat.le_trans hb ax.le)) ho hlg
        · rw [ho]; exact ax
    refine ⟨abs n fr sup h out e' hf hb, fun σ a w hst => ?_⟩
    let J : Nat → Act → World → Prop := fun k a' w' => ∃ fr1 sup1 h1 σ1 out1, loopA base ((codeX P c).f call n base) k fr1 sup1 h1 = some out1 ∧ HF h1 sup1 ∧ base ≤ sup1 ∧ St P σ1 fr1 sup1 h1 a' w' ∧ ∀ e a2 w2, OutQ P base σ1 sup1 w' out1 e a2 w2 → OutQ P base σ sup w out e a2 w2
    refine wp_loop_n (J := J) (fun k a1 w1 hJ => ?_) n a w ⟨fr, sup, h, σ, out, e', hf, hb, hst, fun _ _ _ hq => hq⟩
    obtain ⟨fr1, sup1, h1, σ1, out1, el, hf1, hb1, hst1, hQ⟩ := hJ
    cases k with
    | zero => cases (show (none : Option Out) = some out1 from el)
    | succ k =>
      rw [succ] at el
      obtain ⟨o1, hx, hcase⟩ := seqA_some el
      obtain ⟨ax, wx⟩ := ih n base fr1 sup1 h1 o1 hx hf1 hb1
      rcases hcase with ⟨o2, hex, hy, ho, hlg⟩ | ⟨hex, ho⟩
      · refine wp_mono (wx σ1 a1 w1 hst1) fun e a' w' hq => ?_
        obtain ⟨q1, σ2, t1, st1⟩ := hq
        rw [hex] at q1
        have ay := abs k _ _ _ _ hy (ax.fresh hf1) (Nat.le_trans hb1 ax.le)
        cases e with
        | normal => exact ⟨k, by omega, o1.fr, o1.sup, o1.h, σ2, o2, hy, ax.fresh hf1, Nat.le_trans hb1 ax.le, st1, fun e2 a2 w2 hq2 => hQ _ _ _ (OutQ.behind t1 ax.le ay.le (fun b hb => (ax.live b hb).1) ho hlg hq2)⟩
        | _ => exact q1.elim
      · exact wp_mono (wx σ1 a1 w1 hst1) (seq_q hex ho hQ)
  | rangeFunc => intro n base fr sup h out e; cases (show (none : Option Out) = some out from e)
  | scope => intro n base fr sup h out e; cases (show (none : Option Out) = some out from e)
  | label => intro n base fr sup h out e; cases (show (none : Option Out) = some out from e)
  | goto => intro n base fr sup h out e; cases (show (none : Option Out) = some out from e)
  | refuse => intro n base fr sup h out e; cases (show (none : Option Out) = some out from e)
end Go.Ev
