import Derived.Test.YthdpmpfchmcklaaGreatDoorEvStep
namespace Go.Ev
open Go.RowKit

theorem looks_tmp {ops : Array Oper} {o : Oper} {t : Tmp} (h : Operand.tmp t ∈ o.op.operands.toList) : t ∈ o.looksAt ops :=
  List.mem_append_left _ (List.mem_filterMap.2 ⟨.tmp t, h, rfl⟩)
theorem looks_guard {ops : Array Oper} {o : Oper} {j : Nat} {want : Bool} {d : Tmp} (hg : o.guard = some (j, want)) (hd : (ops[j]?).bind (·.dst) = some d) : d ∈ o.looksAt ops := by
  refine List.mem_append_right _ ?_
  simp [hg, hd]
/-- One operation of a region, real. -/
theorem step_wp {P : Program} {ops : Array Oper} {call : CallF} {o : Oper} {s : SR} {σ : Sig} {a : Act} {w : World} {i : Nat} {K : Act → World → Prop} {Q : Exit → Act → World → Prop} (hc : GoodC P call) (h : StepOK P ops.toList call o s)
    (hgl : o.op.operands.toList.all (glOK P) = true) (hf : HF s.h s.sup) (hs : ∀ t, t ∈ o.looksAt ops → SlotR σ s.fr a t) (hr : HR (inFt s.rc.ft) σ s.h w) (hd : Dom σ s.sup) (hg : Gl P σ) (hi : ops[i]? = some o)
    (hK : ∀ v' w', Post σ s.sup ⟨s.v, s.sup', s.h', s.rc.wr, s.rc.ft⟩ w v' w' → K (a.put o.dst v') w') : wpOp P ops Q i K a w := by
  have hwant : ∀ b, Wants ops.toList o s.fr b → Region.wanted o (yielded ops a.tmps) = b := fun b hb => hb.real fun j want d h1 h2 => hs d (looks_guard h1 h2)
  unfold wpOp
  simp only [hi]
  rcases h.how with ⟨hw, r, hr1, h1, h2, h3, h4⟩ | ⟨hw, h1, h2, h3, h4⟩
  · rw [if_pos (hwant _ hw)]
    rw [h1, h2, h3, h4] at hK
    rw [h4] at hr
    refine .inl ((stepX_ok hc o.op s.fr s.sup s.h r hr1 hf).2 o rfl σ a w (fun x hx => ?_) hr hd hg K Q hK)
    exact evS_of hg (List.all_eq_true.1 hgl x hx) fun t ht => hs t (looks_tmp (by rw [← ht]; exact hx))
  · rw [if_neg (by rw [hwant _ hw]; simp)]
    rw [h1, h2, h3, h4] at hK
    exact hK _ _ (post_pure hd vr_undef)

/-- the state, and the real one -/
structure St (P : Program) (σ : Sig) (fr : Frm) (sup : Nat) (h : Heap) (a : Act) (w : World) : Prop where
  fr : FR σ fr a
  hr : HR (fun _ => True) σ h w
  dom : Dom σ sup
  gl : Gl P σ
  df : a.defers = []
def RPost (P : Program) (base : Nat) (σ : Sig) (sup : Nat) (w0 : World) (fr' : Frm) (sup' : Nat) (h' : Heap) (L : Nat → Prop) (a' : Act) (w' : World) : Prop :=
  ∃ σ', Tr (fun b => L b ∨ base ≤ b) σ σ' sup sup' w0 w' ∧ St P σ' fr' sup' h' a' w'
theorem RPost.refl {P : Program} {base : Nat} {σ : Sig} {fr : Frm} {sup : Nat} {h : Heap} {a : Act} {w : World} {L : Nat → Prop} (s : St P σ fr sup h a w) : RPost P base σ sup w fr sup h L a w := ⟨σ, Tr.refl _ _ _ _, s⟩
theorem RPost.trans {P : Program} {base : Nat} {σ σ1 : Sig} {sup sup1 sup2 : Nat} {w w1 w2 : World} {fr2 : Frm} {h2 : Heap} {a2 : Act} {L1 L2 L : Nat → Prop} (t : Tr (fun b => L1 b ∨ base ≤ b) σ σ1 sup sup1 w w1)
    (k : RPost P base σ1 sup1 w1 fr2 sup2 h2 L2 a2 w2) (h01 : sup ≤ sup1) (h12 : sup1 ≤ sup2) (hL : ∀ b, L1 b ∨ L2 b → L b) : RPost P base σ sup w fr2 sup2 h2 L a2 w2 := by
  obtain ⟨σ2, t2, s2⟩ := k
  refine ⟨σ2, (t.trans t2 h01 h12).sub fun b m _ hb => ?_, s2⟩
  rcases hb with (hb | hb) | (hb | hb)
  · exact .inl (hL b (.inl hb))
  · exact .inr hb
  · exact .inl (hL b (.inr hb))
  · exact .inr hb

theorem wp_line {P : Program} {ops : Array Oper} {call : CallF} {base : Nat} {Q : Exit → Act → World → Prop} (hc : GoodC P call) : ∀ (l : List Oper) (tr : List SR) (k : Nat) (fr fr' : Frm) (sup sup' : Nat) (h h' : Heap) (σ : Sig) (a : Act) (w : World),
    (∀ i, l[i]? = ops[k + i]?) → l.all (fun o => o.op.operands.toList.all (glOK P)) = true → Steps' P ops.toList call l tr → Chain tr (fr, sup, h) (fr', sup', h') → HF h sup → base ≤ sup → St P σ fr sup h a w →
    (∀ a' w', RPost P base σ sup w fr' sup' h' (fun x => ∃ s ∈ tr, x ∈ s.rc.wr ∧ x < base) a' w' → Q .normal a' w') → wpOps P ops Q (List.range' k l.length) a w
  | [], tr, k, fr, fr', sup, sup', h, h', σ, a, w, _, _, hs, hch, hf, hb, hst, hQ => by
    have hs' : tr = [] := hs
    subst hs'
    cases (show (fr, sup, h) = (fr', sup', h') from hch)
    exact hQ a w (RPost.refl hst)
  | o :: l, tr, k, fr, fr', sup, sup', h, h', σ, a, w, hl, hgl, hs, hch, hf, hb, hst, hQ => by
    obtain ⟨s, r, rfl, h1, h2⟩ := hs
    obtain ⟨e1, e2⟩ := hch
    cases e1
    simp only [List.all_cons, Bool.and_eq_true] at hgl
    obtain ⟨ha, hlo, hhi⟩ := h1.abs hc hf
    have hi : ops[k]? = some o := by have := hl 0; simpa using this.symm
    rw [List.length_cons, List.range'_succ, wpOps_cons]
    refine step_wp hc h1 hgl.1 hf (fun t _ => hst.fr.s t) (hst.hr.sub fun _ _ _ _ => trivial) hst.dom hst.gl hi fun v' w' hp => ?_
    obtain ⟨σ1, t1, hv1, hr1⟩ := hp
    have hup := HR.up hst.hr hst.dom ha t1 hr1 (fun _ _ => trivial)
    have hst1 : St P σ1 s.fr' s.sup' s.h' (a.put o.dst v') w' :=
      ⟨(hst.fr.mono t1.le).put h1.put hv1, hup.sub fun _ _ _ _ => .inl trivial, t1.dom hst.dom ha.le, hst.gl.mono t1.le, by rw [(put_tmps a o.dst v' 0).2.1]; exact hst.df⟩
    have habs := trace_abs hc l r _ _ _ _ _ _ h2 e2 ((ha.toC hb).fresh hf) (Nat.le_trans hb ha.le)
    refine wp_line hc l r (k + 1) s.fr' fr' s.sup' sup' s.h' h' σ1 (a.put o.dst v') w' (fun i => by have := hl (i + 1); simpa [Nat.add_assoc, Nat.add_comm 1 i] using this) hgl.2 h2 e2 (ha.fresh hf) (Nat.le_trans hb ha.le) hst1 fun a' w'' hp => hQ a' w'' ?_
    refine RPost.trans (L1 := fun x => x ∈ s.rc.wr ∧ x < base) (t1.sub fun b m hb' hw => ?_) hp ha.le habs.le fun b hb' => ?_
    · by_cases hlt : b < base
      · exact .inl ⟨hw, hlt⟩
      · exact .inr (by omega)
    · rcases hb' with hb' | ⟨x, hx, hx2⟩
      · exact ⟨s, by simp, hb'⟩
      · exact ⟨x, by simp [hx], hx2⟩
theorem addLg_mem (base : Nat) : ∀ (x l : List Nat) (b : Nat), b ∈ addLg base x l ↔ b ∈ l ∨ (b ∈ x ∧ b < base)
  | [], l, b => by simp [addLg]
  | c :: r, l, b => by
    rw [addLg, addLg_mem base r]
    have hany : (l.any fun d => Nat.beq c d) = true ↔ c ∈ l := by
      rw [List.any_eq_true]
      constructor
      · rintro ⟨d, hd, he⟩
        have := Nat.eq_of_beq_eq_true he
        subst this; exact hd
      · intro hd; exact ⟨c, hd, by simp⟩
    cases hq : (Nat.blt c base && !(l.any fun d => Nat.beq c d)) with
    | true =>
      simp only [Bool.and_eq_true, Nat.blt_eq] at hq
      simp only [cond_true, List.mem_cons]
      constructor
      · rintro ((rfl | h) | h)
        · exact .inr ⟨.inl rfl, hq.1⟩
        · exact .inl h
        · exact .inr ⟨.inr h.1, h.2⟩
      · rintro (h | ⟨rfl | h, h2⟩)
        · exact .inl (.inr h)
        · exact .inl (.inl rfl)
        · exact .inr ⟨h, h2⟩
    | false =>
      simp only [cond_false, List.mem_cons]
      constructor
      · rintro (h | h)
        · exact .inl h
        · exact .inr ⟨.inr h.1, h.2⟩
      · rintro (h | ⟨rfl | h, h2⟩)
        · exact .inl h
        · rw [Bool.and_eq_false_iff] at hq
          rcases hq with hq | hq
          · rw [← Bool.not_eq_true, Nat.blt_eq] at hq; omega
          · left
            rw [← hany]
            simpa using hq
        · exact .inr ⟨h, h2⟩
theorem lgFold_mem (base : Nat) : ∀ (recs : List Rec) (l : List Nat) (b : Nat), b ∈ recs.foldl (fun l x => addLg base x.wr l) l ↔ b ∈ l ∨ ∃ x ∈ recs, b ∈ x.wr ∧ b < base
  | [], l, b => by simp
  | x :: r, l, b => by
    rw [List.foldl_cons, lgFold_mem base r, addLg_mem]
    simp [or_assoc]
theorem lgOf_mem (base : Nat) (tr : List SR) (b : Nat) : b ∈ lgOf base ((tr.map (·.rc)).reverse ++ []) ↔ ∃ s ∈ tr, b ∈ s.rc.wr ∧ b < base := by
  unfold lgOf
  rw [lgFold_mem]
  simp only [List.append_nil, List.mem_reverse, List.mem_map, List.not_mem_nil, false_or]
  constructor
  · rintro ⟨x, ⟨s, hs, rfl⟩, h⟩; exact ⟨s, hs, h⟩
  · rintro ⟨s, hs, h⟩; exact ⟨s.rc, ⟨s, hs, rfl⟩, h⟩
end Go.Ev
