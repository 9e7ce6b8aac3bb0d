import Derived.Test.YthdpmpfchmcklaaGreatDoorEvFn
import Derived.RowKit3
import Derived.ChangeSame
import Derived.WideKeyArgs
import Derived.Deep.Onto
import Derived.Deep.Frames
import Derived.OpenShut
namespace Go.Ev
open Go.RowKit

/-! ### A run that returns true and leaves what was there -/
/-- All that was there stands. -/
structure Kept (W w' : World) : Prop where
  but : W.keptBut w' (fun _ => False)
  fz : ∀ a : Addr, a.block < W.heap.size → w'.frozen? a = W.frozen? a
  heap : ∀ i, i < W.heap.size → w'.heap[i]? = W.heap[i]?
theorem kept_of_fr {σ : Sig} {W w' : World} (h : Fr (· ∈ ([] : List Nat)) σ W w') : Kept W w' := by
  have hk : ∀ i, i < W.heap.size → w'.heap[i]? = W.heap[i]? := fun i hi => h.keep i hi fun b m _ hb => by simp at hb
  refine ⟨World.keptBut.congr (World.keptBut_refl W _) h.os h.output hk, fun a ha => ?_, hk⟩
  simp only [World.frozen?, hk a.block ha]
def sayTrue (r : Option R) : Bool :=
  match r with
  | some ⟨.bool true, _, _, [], _⟩ => true
  | _ => false
theorem sayTrue_some {r : Option R} (h : sayTrue r = true) : ∃ sup h ft, r = some ⟨.bool true, sup, h, [], ft⟩ := by
  unfold sayTrue at h
  split at h
  · exact ⟨_, _, _, rfl⟩
  · cases h
theorem use_true {P : Program} {call : CallF} (hc : GoodC P call) {f : FuncId} {args args' : List Value} {sup : Nat} {h : Heap} {σ : Sig} {w : World} (hr : sayTrue (call f args sup h) = true) (hf : HF h sup) (ha : LR σ args args')
    (hh : HR (fun _ => True) σ h w) (hd : Dom σ sup) (hg : Gl P σ) : Calls P f args'.toArray w fun e w' => e = .returned (.bool true) ∧ Kept w w' := by
  obtain ⟨sup', h', ft, hr'⟩ := sayTrue_some hr
  refine ((hc f args sup h _ hr' hf).2.2 σ args' w ha (hh.sub fun _ _ _ _ => trivial) hd hg).mono fun e w' he => ?_
  cases e with
  | returned v =>
    obtain ⟨σ', t, hv, _⟩ := he
    exact ⟨by rw [hv.of_plain (by rfl)], kept_of_fr t.fr⟩
  | panicked c => exact he.elim
  | outgrown => exact he.elim

/-- the first numbers: the package's variables -/
def gSig (n : Nat) (asz : Nat → Nat) : Sig := fun b => if b < n then some ⟨b, 0, asz b, 0, 0⟩ else none
theorem gSig_dom (n : Nat) (asz : Nat → Nat) : Dom (gSig n asz) n := by
  intro b m h
  unfold gSig at h
  split at h
  · assumption
  · cases h
theorem gSig_gl {P : Program} (asz : Nat → Nat) : Gl P (gSig P.globals.size asz) := fun g hg => ⟨⟨g, 0, asz g, 0, 0⟩, by simp [gSig, hg], rfl, rfl⟩
theorem gSig_inj {S : Nat → Prop} {n : Nat} {asz : Nat → Nat} {h : Heap} {w : World} (hb : ∀ b m k, S b → gSig n asz b = some m → h.get b = some k → BR (gSig n asz) m k w) : HR S (gSig n asz) h w := by
  refine ⟨hb, fun b1 b2 m1 m2 k1 k2 _ _ e1 e2 _ _ he => ?_⟩
  unfold gSig at e1 e2
  split at e1
  · split at e2
    · cases e1; cases e2; exact he
    · cases e2
  · cases e1
/-! ### Arguments that are handed on, not looked at -/
def veil : Value := .complex .f64 0 0
theorem cell_one {P : Program} {w : World} {r : Reach} {base : Nat} {t : TypeId} {v : Value} (h : Cell.okWide P w r base t v) : v.oneCell' = true := by
  cases v with
  | agg c => 
    exfalso
    unfold Cell.okWide at h
    split at h <;> first
      | (rename_i e; cases e; done)
      | (unfold Cell.ok at h; split at h <;> first | exact h | (rename_i e; cases e; done) | simp_all)
  | tuple c =>
    exfalso
    unfold Cell.okWide at h
    split at h <;> first
      | (rename_i e; cases e; done)
      | (unfold Cell.ok at h; split at h <;> first | exact h | (rename_i e; cases e; done) | simp_all)
  | _ => rfl
def rowD : TypeDesc → Bool
  | .struct _ | .array _ _ => true
  | _ => false
theorem veiled_cell {P : Program} {w : World} {r : Reach} {base : Nat} {t : TypeId} {v : Value} {σ : Sig} {d : TypeDesc} (ht : P.underlying t = some d) (hd : rowD d = false) (h : Value.okWide P w r base t v) : VR σ veil v := by
  refine .veiled (cell_one (P := P) (w := w) (r := r) (base := base) (t := t) ?_)
  unfold Value.okWide at h
  split at h
  · rename_i e; rw [ht] at e; cases e; simp [rowD] at hd
  · rename_i e; rw [ht] at e; cases e; simp [rowD] at hd
  · exact h
theorem veiled_agg {P : Program} {w : World} {r : Reach} {base : Nat} {t : TypeId} {v : Value} {σ : Sig} {n : Nat} {d : TypeDesc} (ht : P.underlying t = some d) (hd : rowD d = true) (hn : P.cellsOf t = n) (h : Value.okWide P w r base t v) :
    VR σ (.agg ⟨List.replicate n veil⟩) v := by
  have key : ∃ cs, v = .agg cs ∧ cs.size = P.cellsOf t ∧ Row.okWide P w r base t cs := by
    unfold Value.okWide at h
    split at h
    · exact h
    · exact h
    · rename_i h1 h2
      exfalso
      rw [ht] at h1 h2
      cases d <;> simp [rowD] at hd <;> first
        | exact h1 _ rfl
        | exact h2 _ _ rfl
  obtain ⟨cs, rfl, h1, ts, h2, h3, h4⟩ := key
  refine .agg (by simp; omega) fun i u u' hu hu' => ?_
  have hl : i < n := by
    have := (Array.getElem?_eq_some_iff.1 hu).1
    simpa using this
  have : u = veil := by
    have h5 : (List.replicate n veil)[i]? = some u := by rw [← List.getElem?_toArray]; exact hu
    rw [List.getElem?_replicate, if_pos hl] at h5
    cases h5; rfl
  subst this
  obtain ⟨ty, _, h6⟩ := h4 i u' hu'
  exact .veiled (cell_one h6)

section
open Go.WideShapes Go.ChangeShapes
variable {H : Type} {enc : TypeId × Value → H} {P : Program}
theorem post_kept {f : Func} {s : ChangeSpec} {apart fresh handsOn again : Bool} {W W' : World} {args : Array Value} {v : Value} {ds gs : List (DataW H)} {before pa pv : List MemPlace}
    (hW : DataW.Whole enc P f.params.toList s.vars apart W args.toList ds gs before)
    (hres : ∀ (b : Nat) (sp : Nat → Bool) (hd : Bool), DataW.TrodAll enc P W' b sp hd f.resultTypes.toList (v.resultList f.resultTypes.size) (s.fn H (ds ++ gs)).results [])
    (hargs : ∀ sp : Nat → Bool, (∀ p ∈ before, sp p.block = true) → DataW.TrodAll enc P W' 0 sp true f.params.toList args.toList (s.fn H (ds ++ gs)).args pa)
    (hvars : ∀ sp : Nat → Bool, (∀ p ∈ before, sp p.block = true) → DataW.TrodVars enc P W' sp s.vars (s.fn H (ds ++ gs)).vars pv)
    (hps : before = pa ++ pv) (hk : Kept W W')
    (hok : ∀ (j : Nat) (t : TypeId) (r : Value), f.resultTypes[j]? = some t → (v.resultList f.resultTypes.size)[j]? = some r → Value.okWide P W' .any 0 t r) :
    s.post enc P f apart fresh handsOn again W args v W' := by
  have hold : ∀ p ∈ before, (fun b => decide (b < W.heap.size)) p.block = true := fun p hp => by simpa using hW.lt p hp
  have hlt : ∀ p ∈ before, p.block < W.heap.size := fun p hp => hW.lt p hp
  refine ⟨ds, gs, before, [], pa, pv, hW, hres _ _ _, hargs _ hold, hvars _ hold, World.keptBut_mono (fun _ h => h.elim) hk.but, fun _ => ?_⟩
  · obtain ⟨_, _, _, _, _, hz, hn⟩ := hW
    refine ⟨hok, _, _, ([] ++ pa) ++ pv, ⟨[] ++ pa, pv, trodAll_append (hargs _ (fun _ _ => rfl)) (hres _ _ _), hvars _ (fun _ _ => rfl), rfl, ?_, ?_⟩, ?_⟩
    · intro b off hp
      have hp' : MemPlace.cell b off ∈ before := by rw [hps]; simpa using hp
      rw [hk.fz _ (hlt _ hp')]
      exact hz b off hp'
    · intro ha
      have := hn ha
      rw [hps] at this
      simpa using this
    · intro p hp _
      rw [hps]
      simpa using hp
theorem Kept.sameAt {W W' : World} (h : Kept W W') {p : MemPlace} (hb : p.block < W.heap.size) : W.sameAt W' p := by
  cases p with
  | cell b o =>
    show W'.cell? ⟨b, o, none⟩ = W.cell? ⟨b, o, none⟩
    simp only [World.cell?, h.heap b hb]
  | map b => exact h.heap b hb
end

/-! ### Variables that hold a row of numbers -/
theorem laid_ints {H : Type} {enc : TypeId × Value → H} {P : Program} {W : World} {base : Nat} {spare : Nat → Bool} {held : Bool} {fuel : Nat} {t e : TypeId} {n : Nat} {k : IntKind} {cs : List Value} {ns : List Int} {p : List MemPlace}
    (hU : P.underlying t = some (.array n e)) (hE : P.underlying e = some (.int k)) (hc : P.cellsOf e = 1) (ht : P.cellsOf t = n) (h : DataW.trod enc P W base spare held fuel t cs = some (.agg (ns.map fun i => .lit (.int k i)), p)) : cs = ns.map (Value.int k) := by
  obtain ⟨xs, m, _, hx, hlen, hn, hel⟩ := DataW.trod_array hU h
  simp only [Prod.mk.injEq, DataW.agg.injEq] at hx
  obtain ⟨hx1, _⟩ := hx
  have hnl : ns.length = n := by
    have := congrArg List.length hx1
    simp only [List.length_map] at this
    omega
  apply List.ext_getElem?
  intro i
  by_cases hi : i < n
  · have h1 := hel i hi
    rw [hc, Nat.mul_one] at h1
    have hxi : xs[i]? = some (xs[i]'(by omega)) := List.getElem?_eq_getElem (by omega)
    rw [hxi] at h1
    obtain ⟨v, e1, e2, _⟩ := DataW.trod_int hE h1
    have e3 : cs[i]? = some (.int k v) := by
      have := congrArg (fun l => l[0]?) e1
      simpa [List.getElem?_take, List.getElem?_drop] using this
    have e4 : (ns.map fun i => (DataW.lit (.int k i) : DataW H))[i]? = (xs.map (·.1))[i]? := by rw [hx1]
    rw [List.getElem?_map, List.getElem?_map, hxi, e2] at e4
    rw [e3, List.getElem?_map]
    cases hq : ns[i]? with
    | none => rw [hq] at e4; cases e4
    | some j =>
      rw [hq] at e4
      simp only [Option.map_some, Option.some.injEq, DataW.lit.injEq, Lit.int.injEq, true_and] at e4
      rw [← e4]; rfl
  · rw [List.getElem?_eq_none (by omega), List.getElem?_eq_none (by simp; omega)]
theorem br_row {σ : Sig} {g : Nat} {vs : List Value} {e : TypeId} {W : World} (hW : W.heap[g]? = some (.cells vs.toArray e (0, 0))) (hp : vs.all plain = true) : BR σ ⟨g, 0, vs.length, 0, 0⟩ ⟨wrN vs .nil 0, vs.length, e, 0⟩ W := by
  refine ⟨vs.toArray, (0, 0), hW, rfl, by simp, fun _ => rfl, fun h => absurd rfl h, fun i v hi hv => ?_, fun i _ => by simp⟩
  simp only [new_get] at hv
  exact ⟨v, by simpa using hv, .plain (List.all_eq_true.1 hp v (List.mem_of_getElem? hv))⟩
end Go.Ev
