import Derived.Test.YthdpmpfchmcklaaGreatDoorEvSlot
namespace Go.Ev
open Go.RowKit

/-! ### One operation, with its guard -/
def retPost (R : Value → World → Prop) : Ending → World → Prop
  | .returned v, w => R v w
  | _, _ => False
def GoodC (P : Program) (call : CallF) : Prop :=
  ∀ f args sup h r, call f args sup h = some r → HF h sup → Abs sup h r ∧ (∃ fn, P.funcs[f]? = some fn ∧ (fn.name == "runtime.NumGoroutine") = false ∧ fn.body.isNone = false) ∧
    ∀ (σ : Sig) (args' : List Value) (w : World), LR σ args args' → HR (inFt r.ft) σ h w → Dom σ sup → Gl P σ → Calls P f args'.toArray w (retPost fun v' w' => Post σ sup r w v' w')

theorem s_callV {P : Program} {call : CallF} (hc : GoodC P call) (f : Operand) (args : Array Operand) (ts : Array TypeId) :
    OpS P (.call { callee := .value f, args := args, argTypes := ts }) (fun fr sup h => callV call ((evX f).f fr) ((evsX args.toList).f fr) sup h) := by
  intro fr sup h r e hf
  replace e : callV call ((evX f).f fr) ((evsX args.toList).f fr) sup h = some r := e
  unfold callV at e
  split at e
  · rename_i k first cap hv
    split at e
    · rename_i l hl
      obtain ⟨habs, ⟨fn, hfn, hname, hbody⟩, hs⟩ := hc _ _ _ _ _ e hf
      refine ⟨habs, fun o ho σ a w hx hr hd hg K Q hK => ?_⟩
      have hfv := hx f (by simp [Op.operands, Call.operands]) _ hv
      obtain ⟨first', cap', e1, h1, h2⟩ := hfv.of_func
      have h3 := evsX_some hl (fun x hm => hx x (by simp [Op.operands, Call.operands] at hm ⊢; exact .inr hm))
      have hargs : LR σ (first.toList ++ (l ++ cap.toList)) (first'.toList ++ (args.toList.map a.eval ++ cap'.toList)) := h1.toList.append (h3.append h2.toList)
      have hcalls := hs σ _ w hargs hr hd hg
      have harr : (first'.toList ++ (args.toList.map a.eval ++ cap'.toList)).toArray = first' ++ args.map a.eval ++ cap' := by
        apply Array.ext'; simp
      rw [harr] at hcalls
      have hrun : (execOp a.eval o).run P w = .ok (.enter k (first' ++ args.map a.eval ++ cap')) w := by
        have hn : fn.name ≠ "runtime.NumGoroutine" := by simpa using hname
        have hb : fn.body ≠ none := by intro h0; rw [h0] at hbody; simp at hbody
        simp [execOp, ho, resolve, e1, Deferred.ofValue, invoke, callFunc, hfn, hn, hb]
      unfold Oper.wp
      rw [hrun, Oper.upon_enter]
      refine Calls.mono hcalls fun en w' hen => ?_
      cases en with
      | returned v => exact hK _ _ hen
      | panicked c => exact hen.elim
      | outgrown => exact hen.elim
    · cases e
  · cases e
theorem stepX_ok {P : Program} {call : CallF} (hc : GoodC P call) (op : Op) : OpS P op ((stepX P op).f call) := by
  cases op with
  | call c =>
    obtain ⟨callee, args, ts⟩ := c
    cases callee with
    | value f => exact s_callV hc f args ts
    | builtin b => exact opX_ok P (.call _)
    | invoke x n => exact opX_ok P (.call _)
  | _ => exact opX_ok P _

/-- Is operation o wanted? -/
def Wants (all : List Oper) (o : Oper) (fr : Frm) (b : Bool) : Prop :=
  (o.guard = none ∧ b = true) ∨ ∃ j want d x, o.guard = some (j, want) ∧ (all[j]?).bind (·.dst) = some d ∧ fr.s.get d = some (.bool x) ∧ (x == want) = b
theorem Wants.real {all : Array Oper} {o : Oper} {fr : Frm} {b : Bool} {σ : Sig} {a : Act} (h : Wants all.toList o fr b) (hs : ∀ j want d, o.guard = some (j, want) → (all[j]?).bind (·.dst) = some d → SlotR σ fr a d) :
    Region.wanted o (yielded all a.tmps) = b := by
  rcases h with ⟨h1, rfl⟩ | ⟨j, want, d, x, h1, h2, h3, h4⟩
  · simp [Region.wanted, h1]
  · have h2' : (all[j]?).bind (·.dst) = some d := by simpa using h2
    obtain ⟨v', e1, e2⟩ := hs j want d h1 h2' _ h3
    rw [e2.of_plain (by rfl)] at e1
    have : yielded all a.tmps j = some x := by
      simp only [yielded, h2', Option.bind_some, e1]
    simp only [Region.wanted, h1, this]
    rw [← h4]; rfl
structure SR where
  fr : Frm
  sup : Nat
  h : Heap
  fr' : Frm
  sup' : Nat
  h' : Heap
  v : Value
  rc : Rec
/-- What was done at an operation. -/
structure StepOK (P : Program) (all : List Oper) (call : CallF) (o : Oper) (s : SR) : Prop where
  put : (putX o.dst).f s.fr s.v = some s.fr'
  how : (Wants all o s.fr true ∧ ∃ r, (stepX P o.op).f call s.fr s.sup s.h = some r ∧ s.v = r.v ∧ s.sup' = r.sup ∧ s.h' = r.h ∧ s.rc = ⟨r.wr, r.ft, s.sup, r.sup⟩) ∨
    (Wants all o s.fr false ∧ s.v = undef ∧ s.sup' = s.sup ∧ s.h' = s.h ∧ s.rc = ⟨[], some [], s.sup, s.sup⟩)
def Chain : List SR → Frm × Nat × Heap → Frm × Nat × Heap → Prop
  | [], a, b => a = b
  | s :: r, a, b => (s.fr, s.sup, s.h) = a ∧ Chain r (s.fr', s.sup', s.h') b
def Steps' (P : Program) (all : List Oper) (call : CallF) : List Oper → List SR → Prop
  | [], tr => tr = []
  | o :: l, tr => ∃ s r, tr = s :: r ∧ StepOK P all call o s ∧ Steps' P all call l r

theorem wantG_some {all : List Oper} {j : Nat} {want : Bool} {fr : Frm} {b : Bool} (h : (wantG all j want).f fr = some b) : ∃ d x, (all[j]?).bind (·.dst) = some d ∧ fr.s.get d = some (.bool x) ∧ (x == want) = b := by
  unfold wantG at h
  split at h
  · rename_i d _ _ _ _ _ hj
    have h' : wantB want ((getBx d).f fr.s) = some b := h
    rw [getBx_eq] at h'
    unfold wantB at h'
    split at h'
    · rename_i x hx
      cases h'
      exact ⟨d, x, by rw [hj]; rfl, hx, rfl⟩
    · cases h'
  · cases h
theorem runPut_some {put : Frm → Value → Option Frm} {ih : Runs} {fr : Frm} {lo : Nat} {recs : List Rec} {r : Option R} {run : Run} (h : runPut put ih fr lo recs r = some run) :
    ∃ x fr', r = some x ∧ put fr x.v = some fr' ∧ ih fr' x.sup x.h (⟨x.wr, x.ft, lo, x.sup⟩ :: recs) = some run := by
  unfold runPut at h
  split at h
  · simp only [forceV_eq, forceN_eq, forceT_eq] at h
    unfold runNext at h
    split at h
    · rename_i hp; exact ⟨_, _, rfl, hp, h⟩
    · cases h
  · cases h
theorem operX_none (P : Program) (all : List Oper) (o : Oper) (hg : o.guard = none) (call : CallF) (ih : Runs) (fr : Frm) (sup : Nat) (h : Heap) (recs : List Rec) :
    (operX P all o).f call ih fr sup h recs = runPut (putX o.dst).f ih fr sup recs ((stepX P o.op).f call fr sup h) := by
  unfold operX
  simp only [wantX, hg]
theorem operX_guard (P : Program) (all : List Oper) (o : Oper) (j : Nat) (want : Bool) (hg : o.guard = some (j, want)) (call : CallF) (ih : Runs) (fr : Frm) (sup : Nat) (h : Heap) (recs : List Rec) :
    (operX P all o).f call ih fr sup h recs = runG (putX o.dst).f (stepX P o.op).f call ih fr sup h recs ((wantG all j want).f fr) := by
  unfold operX
  simp only [wantX, hg]
theorem opsX_cons (P : Program) (all : List Oper) (o : Oper) (l : List Oper) (call : CallF) (fr : Frm) (sup : Nat) (h : Heap) (recs : List Rec) :
    (opsX P all (o :: l)).f call fr sup h recs = (operX P all o).f call ((opsX P all l).f call) fr sup h recs := rfl
theorem opsX_trace {P : Program} {all : List Oper} {call : CallF} : ∀ (l : List Oper) (fr : Frm) (sup : Nat) (h : Heap) (recs : List Rec) (run : Run), (opsX P all l).f call fr sup h recs = some run →
    ∃ tr : List SR, Steps' P all call l tr ∧ Chain tr (fr, sup, h) (run.fr, run.sup, run.h) ∧ run.recs = (tr.map (·.rc)).reverse ++ recs
  | [], fr, sup, h, recs, run, e => by
    have e' : some (Run.mk fr sup h recs) = some run := e
    cases e'
    exact ⟨[], rfl, rfl, rfl⟩
  | o :: l, fr, sup, h, recs, run, e => by
    rw [opsX_cons] at e
    have skipped : ∀ {fr1 : Frm}, (putX o.dst).f fr undef = some fr1 → Wants all o fr false → (opsX P all l).f call fr1 sup h (⟨[], some [], sup, sup⟩ :: recs) = some run →
        ∃ tr : List SR, Steps' P all call (o :: l) tr ∧ Chain tr (fr, sup, h) (run.fr, run.sup, run.h) ∧ run.recs = (tr.map (·.rc)).reverse ++ recs := by
      intro fr1 hp hw hi
      obtain ⟨tr, h1, h2, h3⟩ := opsX_trace l _ _ _ _ _ hi
      exact ⟨⟨fr, sup, h, fr1, sup, h, undef, ⟨[], some [], sup, sup⟩⟩ :: tr, ⟨_, _, rfl, ⟨hp, .inr ⟨hw, rfl, rfl, rfl, rfl⟩⟩, h1⟩, ⟨rfl, h2⟩, by simp [h3]⟩
    have done : runPut (putX o.dst).f ((opsX P all l).f call) fr sup recs ((stepX P o.op).f call fr sup h) = some run → Wants all o fr true →
        ∃ tr : List SR, Steps' P all call (o :: l) tr ∧ Chain tr (fr, sup, h) (run.fr, run.sup, run.h) ∧ run.recs = (tr.map (·.rc)).reverse ++ recs := by
      intro e hw
      obtain ⟨x, fr', hx, hp, hi⟩ := runPut_some e
      obtain ⟨tr, h1, h2, h3⟩ := opsX_trace l _ _ _ _ _ hi
      exact ⟨⟨fr, sup, h, fr', x.sup, x.h, x.v, ⟨x.wr, x.ft, sup, x.sup⟩⟩ :: tr, ⟨_, _, rfl, ⟨hp, .inl ⟨hw, x, hx, rfl, rfl, rfl, rfl⟩⟩, h1⟩, ⟨rfl, h2⟩, by simp [h3]⟩
    cases hg : o.guard with
    | none =>
      rw [operX_none P all o hg] at e
      exact done e (.inl ⟨hg, rfl⟩)
    | some gw =>
      obtain ⟨j, want⟩ := gw
      rw [operX_guard P all o j want hg] at e
      unfold runG at e
      split at e
      · rename_i hw
        obtain ⟨d, x, h1, h2, h3⟩ := wantG_some hw
        exact done e (.inr ⟨j, want, d, x, hg, h1, h2, h3⟩)
      · rename_i hw
        obtain ⟨d, x, h1, h2, h3⟩ := wantG_some hw
        unfold runNext at e
        split at e
        · rename_i fr1 hp
          exact skipped hp (.inr ⟨j, want, d, x, hg, h1, h2, h3⟩) e
        · cases e
      · cases e

/-! ### What a code does to the abstract heap -/
structure AbsC (base sup : Nat) (h : Heap) (sup' : Nat) (h' : Heap) (L : Nat → Prop) : Prop where
  le : sup ≤ sup'
  same : ∀ b, b < base → ¬ L b → h'.get b = h.get b
  live : ∀ b, L b → b < base ∧ ∃ k, h.get b = some k
  fresh : HF h sup → HF h' sup'
theorem AbsC.refl (base sup : Nat) (h : Heap) : AbsC base sup h sup h (fun _ => False) := ⟨Nat.le_refl _, fun _ _ _ => rfl, fun _ hb => hb.elim, id⟩
theorem AbsC.trans {base sup sup1 sup2 : Nat} {h h1 h2 : Heap} {L1 L2 : Nat → Prop} (a : AbsC base sup h sup1 h1 L1) (b : AbsC base sup1 h1 sup2 h2 L2) : AbsC base sup h sup2 h2 (fun x => L1 x ∨ L2 x) := by
  refine ⟨Nat.le_trans a.le b.le, fun x hx hn => ?_, fun x hx => ?_, fun hf => b.fresh (a.fresh hf)⟩
  · rw [b.same x hx fun q => hn (.inr q), a.same x hx fun q => hn (.inl q)]
  · rcases hx with hx | hx
    · exact a.live x hx
    · obtain ⟨h1, k, hk⟩ := b.live x hx
      by_cases hl : L1 x
      · exact a.live x hl
      · exact ⟨h1, k, by rw [← a.same x h1 hl]; exact hk⟩
theorem AbsC.iff {base sup sup' : Nat} {h h' : Heap} {L L' : Nat → Prop} (a : AbsC base sup h sup' h' L) (e : ∀ x, L x ↔ L' x) : AbsC base sup h sup' h' L' :=
  ⟨a.le, fun x hx hn => a.same x hx fun q => hn ((e x).1 q), fun x hx => a.live x ((e x).2 hx), a.fresh⟩
theorem Abs.toC {base sup : Nat} {h : Heap} {r : R} (a : Abs sup h r) (hb : base ≤ sup) : AbsC base sup h r.sup r.h (fun x => x ∈ r.wr ∧ x < base) :=
  ⟨a.le, fun x hx hn => a.same x (by omega) fun q => hn ⟨q, hx⟩, fun x hx => ⟨hx.2, (a.live x hx.1).2⟩, a.fresh⟩
theorem StepOK.abs {P : Program} {all : List Oper} {call : CallF} {o : Oper} {s : SR} (hc : GoodC P call) (h : StepOK P all call o s) (hf : HF s.h s.sup) : Abs s.sup s.h ⟨s.v, s.sup', s.h', s.rc.wr, s.rc.ft⟩ ∧ s.rc.lo = s.sup ∧ s.rc.hi = s.sup' := by
  rcases h.how with ⟨_, r, hr, h1, h2, h3, h4⟩ | ⟨_, h1, h2, h3, h4⟩
  · have := (stepX_ok hc o.op s.fr s.sup s.h r hr hf).1
    rw [h1, h2, h3, h4]
    exact ⟨this, rfl, rfl⟩
  · rw [h1, h2, h3, h4]
    exact ⟨abs_pure _ _ _ _, rfl, rfl⟩
theorem trace_abs {P : Program} {all : List Oper} {call : CallF} {base : Nat} (hc : GoodC P call) : ∀ (l : List Oper) (tr : List SR) (fr fr' : Frm) (sup sup' : Nat) (h h' : Heap), Steps' P all call l tr → Chain tr (fr, sup, h) (fr', sup', h') → HF h sup → base ≤ sup →
    AbsC base sup h sup' h' (fun x => ∃ s ∈ tr, x ∈ s.rc.wr ∧ x < base)
  | [], tr, fr, fr', sup, sup', h, h', hs, hch, hf, hb => by
    have hs' : tr = [] := hs
    subst hs'
    cases (show (fr, sup, h) = (fr', sup', h') from hch)
    exact (AbsC.refl _ _ _).iff fun x => by simp
  | o :: l, tr, fr, fr', sup, sup', h, h', hs, hch, hf, hb => by
    obtain ⟨s, r, rfl, h1, h2⟩ := hs
    obtain ⟨e1, e2⟩ := hch
    cases e1
    obtain ⟨ha, _, _⟩ := h1.abs hc hf
    have ha' := ha.toC hb
    have := trace_abs hc l r _ _ _ _ _ _ h2 e2 (ha'.fresh hf) (Nat.le_trans hb ha'.le)
    exact (ha'.trans this).iff fun x => by simp
end Go.Ev
