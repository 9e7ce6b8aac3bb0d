/- The walk of instarlaw37.ModelNone: whatever the arguments are, the call returns true and all that was there stands. -/
import Derived.Test.YthdpmpfchmcklaaGreatDoorRun
import Derived.Test.YthdpmpfchmcklaaGreatDoorRows
import Derived.ProofKit
import Derived.LaidMore
import Derived.OpenShut
import Derived.Stop.Joined
namespace Go.Proofs.YthdpmpfchmcklaaGreatDoor
open Go.ChangeShapes Go.WideShapes Go.ChangeAt Go.WideMaps Go.WideElems Go.RowKit Go.Ev

theorem own : ownKnob Tryz.prog.godebug = none := by kernel_rfl
theorem gFirst : Tryz.prog.globalNamed "instar/sha.first" = some 0 := by kernel_rfl
theorem gRound : Tryz.prog.globalNamed "instar/sha.round" = some 1 := by kernel_rfl
theorem tFirst : (Tryz.prog.globals[0]?).map (·.type) = some 34 := by kernel_rfl
theorem tRound : (Tryz.prog.globals[1]?).map (·.type) = some 291 := by kernel_rfl
theorem gCount : Tryz.prog.globals.size = 2 := by kernel_rfl
theorem mixed : Tryz.prog.follows .mixedOrders = true := by kernel_rfl
abbrev laid2 : List (String × DataW Unit) := [("instar/sha.first", Rows.laid_instar_sha_first), ("instar/sha.round", Rows.laid_instar_sha_round)]

/-- The door's own heap meets the condition: three closed facts. -/
theorem door_met (os : Os) (args : Array Value) : laidMetH Tryz.prog laid2 ((World.doorLaid Tryz.prog 400 os).forCall (fun _ _ => 0) ⟨#[], args, []⟩).memory :=
  laidMetH_of_parts3 (fuel := 8) (laidMet_of_run' 8 (by kernel_rfl) (by kernel_rfl)) (by kernel_rfl) (by kernel_rfl)

/-- A row of cells that a variable holds, as it lies in the heap. -/
theorem row_of {W : World} {g : Nat} {name : String} {cs : Array Value} (hg : Tryz.prog.globalNamed name = some g) (hv : W.var? Tryz.prog name = some cs) {c : Array Value} {t : TypeId} (hh : W.heap[g]? = some (.cells c t (0, 0))) : W.heap[g]? = some (.cells cs t (0, 0)) := by
  simp only [World.var?, hg, Option.bind_some, hh, Option.some.injEq] at hv
  rw [hh, hv]

/-- WHAT THE CONDITION GIVES: the two tables lie at the first two blocks. -/
theorem of_laid {W : World} (h : laidMetH Tryz.prog laid2 W) : ∃ e0 e1, W.heap[0]? = some (.cells (firstN.map (Value.int .u32)).toArray e0 (0, 0)) ∧ W.heap[1]? = some (.cells (roundN.map (Value.int .u32)).toArray e1 (0, 0)) := by
  rw [MakeChecks.laidMetH_plain _ _ _ (by kernel_rfl)] at h
  obtain ⟨ps, ⟨g0, t0, cs0, f0, p0, q0, hg0, ht0, hv0, hd0, ⟨g1, t1, cs1, f1, p1, q1, hg1, ht1, hv1, hd1, _, hq⟩, hp⟩, _, hc⟩ := h
  obtain rfl := Option.some.inj (gFirst.symm.trans hg0)
  obtain rfl := Option.some.inj (gRound.symm.trans hg1)
  obtain rfl := Option.some.inj (tFirst.symm.trans ht0)
  obtain rfl := Option.some.inj (tRound.symm.trans ht1)
  have e0 : cs0.toList = firstN.map (Value.int .u32) := laid_ints (n := 8) (e := 33) (k := .u32) (by kernel_rfl) (by kernel_rfl) (by kernel_rfl) (by kernel_rfl) (p := p0) (ns := firstN) hd0
  have e1 : cs1.toList = roundN.map (Value.int .u32) := laid_ints (n := 64) (e := 33) (k := .u32) (by kernel_rfl) (by kernel_rfl) (by kernel_rfl) (by kernel_rfl) (p := p1) (ns := roundN) hd1
  have a0 : cs0 = (firstN.map (Value.int .u32)).toArray := by rw [← e0]
  have a1 : cs1 = (roundN.map (Value.int .u32)).toArray := by rw [← e1]
  have z0 : 0 < cs0.size := by rw [a0]; decide
  have z1 : 0 < cs1.size := by rw [a1]; decide
  obtain ⟨⟨c0, u0, h0⟩, _⟩ := hc 0 0 (by
    rw [hp]
    exact List.mem_append_left _ (List.mem_append_left _ (MemPlace.mem_row.2 ⟨0, z0, rfl⟩)))
  obtain ⟨⟨c1, u1, h1⟩, _⟩ := hc 1 0 (by
    rw [hp, hq]
    exact List.mem_append_right _ (List.mem_append_left _ (List.mem_append_left _ (MemPlace.mem_row.2 ⟨0, z1, rfl⟩))))
  have r0 := row_of gFirst hv0 h0
  have r1 := row_of gRound hv1 h1
  rw [a0] at r0
  rw [a1] at r1
  exact ⟨u0, u1, r0, r1⟩

theorem gHeap_get (e0 e1 : TypeId) (b : Nat) : (gHeap e0 e1).get b = if b = 1 then some ⟨wrN (roundN.map (Value.int .u32)) .nil 0, 64, e1, 0⟩ else if b = 0 then some ⟨wrN (firstN.map (Value.int .u32)) .nil 0, 8, e0, 0⟩ else none := by
  have l0 : (firstN.map (Value.int .u32)).length = 8 := rfl
  have l1 : (roundN.map (Value.int .u32)).length = 64 := rfl
  simp only [gHeap, mkBlk_eq, forceT_eq, T.get_put, T.get_nil, l0, l1]
def asz (b : Nat) : Nat := if b = 0 then 8 else 64
theorem heap_real {W : World} {e0 e1 : TypeId} (h0 : W.heap[0]? = some (.cells (firstN.map (Value.int .u32)).toArray e0 (0, 0))) (h1 : W.heap[1]? = some (.cells (roundN.map (Value.int .u32)).toArray e1 (0, 0))) :
    HR (fun _ => True) (gSig 2 asz) (gHeap e0 e1) W := by
  refine gSig_inj fun b m k _ hm hk => ?_
  rw [gHeap_get] at hk
  by_cases b1 : b = 1
  · subst b1
    rw [if_pos rfl] at hk
    have hk' := Option.some.inj hk
    subst hk'
    have : m = ⟨1, 0, 64, 0, 0⟩ := by
      have h : gSig 2 asz 1 = some ⟨1, 0, 64, 0, 0⟩ := rfl
      rw [h] at hm; cases hm; rfl
    subst this
    exact br_row (vs := roundN.map (Value.int .u32)) h1 (by rfl)
  · rw [if_neg b1] at hk
    by_cases b0 : b = 0
    · subst b0
      rw [if_pos rfl] at hk
      have hk' := Option.some.inj hk
      subst hk'
      have : m = ⟨0, 0, 8, 0, 0⟩ := by
        have h : gSig 2 asz 0 = some ⟨0, 0, 8, 0, 0⟩ := rfl
        rw [h] at hm; cases hm; rfl
      subst this
      exact br_row (vs := firstN.map (Value.int .u32)) h0 (by rfl)
    · rw [if_neg b0] at hk; cases hk

set_option maxRecDepth 100000 in
/-- THE WALK: whatever the arguments are: true, and all that was there stands. -/
theorem walk {W : World} {base : Nat} {v0 v1 : Value} (hl : laidMetH Tryz.prog laid2 W) (h0 : Value.okWide Tryz.prog W .any base 26 v0) (h1 : Value.okWide Tryz.prog W .any base 3 v1) :
    Calls Tryz.prog 3 #[v0, v1] W fun e w' => e = .returned (.bool true) ∧ Kept W w' := by
  obtain ⟨e0, e1, q0, q1⟩ := of_laid hl
  have hgood : GoodC Tryz.prog (callN Tryz.prog (fun _ => none) 100000 1000) := callN_ok mixed (fun _ _ h => by cases h) 100000 1000
  have hgl : Gl Tryz.prog (gSig 2 asz) := by
    have := gSig_gl (P := Tryz.prog) asz
    rwa [gCount] at this
  obtain ⟨d0, hd0a, hd0b⟩ : ∃ d, Tryz.prog.underlying 26 = some d ∧ rowD d = true := ⟨_, Tryz.underlying26, rfl⟩
  obtain ⟨d1, hd1a, hd1b⟩ : ∃ d, Tryz.prog.underlying 3 = some d ∧ rowD d = false := ⟨_, Tryz.underlying3, rfl⟩
  obtain ⟨n26, hn26⟩ : ∃ n, Tryz.prog.cellsOf 26 = n := ⟨_, rfl⟩
  have w0 : VR (gSig 2 asz) (.agg ⟨List.replicate n26 veil⟩) v0 := @veiled_agg Tryz.prog W .any base 26 v0 (gSig 2 asz) n26 d0 hd0a hd0b hn26 h0
  have w1 : VR (gSig 2 asz) veil v1 := @veiled_cell Tryz.prog W .any base 3 v1 (gSig 2 asz) d1 hd1a hd1b h1
  have ha : LR (gSig 2 asz) argsOf [v0, v1] := by
    unfold argsOf
    rw [hn26]
    exact (LR.nil.cons w1).cons w0
  exact use_true hgood (run_true e0 e1) (fun b hb => by rw [gHeap_get, if_neg (by omega), if_neg (by omega)]) ha (heap_real q0 q1) (gSig_dom 2 asz) hgl

end Go.Proofs.YthdpmpfchmcklaaGreatDoor
