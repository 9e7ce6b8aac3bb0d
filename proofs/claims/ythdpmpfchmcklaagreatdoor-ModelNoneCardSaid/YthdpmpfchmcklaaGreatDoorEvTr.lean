import Derived.Test.YthdpmpfchmcklaaGreatDoorEvDef
namespace Go.Ev
open Go.RowKit

def inFt (ft : Option (List Nat)) (b : Nat) : Prop :=
  match ft with
  | none => True
  | some l => b ∈ l
def Dom (σ : Sig) (sup : Nat) : Prop := ∀ b m, σ b = some m → b < sup
def HF (h : Heap) (sup : Nat) : Prop := ∀ b, sup ≤ b → h.get b = none
def Gl (P : Program) (σ : Sig) : Prop := ∀ g, g < P.globals.size → ∃ m, σ g = some m ∧ m.blk = g ∧ m.sh = 0

/-- From one map and world to later ones; S: the numbers whose blocks may have changed. -/
structure Tr (S : Nat → Prop) (σ σ' : Sig) (sup sup' : Nat) (w w' : World) : Prop where
  le : σ.le σ'
  new : ∀ b m, σ' b = some m → σ b = some m ∨ (sup ≤ b ∧ b < sup' ∧ (w.heap.size ≤ m.blk ∨ ∃ b0 m0, σ b0 = some m0 ∧ S b0 ∧ m0.blk = m.blk))
  fr : Fr S σ w w'
theorem Tr.refl (S : Nat → Prop) (σ : Sig) (sup : Nat) (w : World) : Tr S σ σ sup sup w w := ⟨Sig.le_refl σ, fun _ _ h => .inl h, Fr.refl _ _ _⟩
theorem Tr.sub {S S' : Nat → Prop} {σ σ' : Sig} {sup sup' : Nat} {w w' : World} (h : Tr S σ σ' sup sup' w w') (hs : ∀ b m, σ b = some m → S b → S' b) : Tr S' σ σ' sup sup' w w' :=
  ⟨h.le, fun b m hb => (h.new b m hb).imp id fun ⟨a, c, d⟩ => ⟨a, c, d.imp id fun ⟨b0, m0, e, f, g⟩ => ⟨b0, m0, e, hs b0 m0 e f, g⟩⟩,
    ⟨h.fr.os, h.fr.tape, h.fr.output, h.fr.size, fun k hk hc => h.fr.keep k hk fun b m e f => hc b m e (hs b m e f)⟩⟩
theorem Tr.wide {S : Nat → Prop} {σ σ' : Sig} {sup sup' sup'' : Nat} {w w' : World} (h : Tr S σ σ' sup sup' w w') (hs : sup' ≤ sup'') : Tr S σ σ' sup sup'' w w' :=
  ⟨h.le, fun b m hb => (h.new b m hb).imp id fun ⟨a, c, d⟩ => ⟨a, Nat.lt_of_lt_of_le c hs, d⟩, h.fr⟩
theorem Tr.low {S : Nat → Prop} {σ σ' : Sig} {sup sup' sup0 : Nat} {w w' : World} (h : Tr S σ σ' sup sup' w w') (hs : sup0 ≤ sup) : Tr S σ σ' sup0 sup' w w' :=
  ⟨h.le, fun b m hb => (h.new b m hb).imp id fun ⟨a, c, d⟩ => ⟨Nat.le_trans hs a, c, d⟩, h.fr⟩
theorem Tr.trans {S1 S2 : Nat → Prop} {σ σ1 σ2 : Sig} {s0 s1 s2 : Nat} {w w1 w2 : World} (h : Tr S1 σ σ1 s0 s1 w w1) (k : Tr S2 σ1 σ2 s1 s2 w1 w2) (h01 : s0 ≤ s1) (h12 : s1 ≤ s2) :
    Tr (fun b => S1 b ∨ S2 b) σ σ2 s0 s2 w w2 := by
  refine ⟨Sig.le_trans h.le k.le, fun b m hb => ?_, ⟨k.fr.os.trans h.fr.os, k.fr.tape.trans h.fr.tape, k.fr.output.trans h.fr.output, Nat.le_trans h.fr.size k.fr.size, fun x hx hc => ?_⟩⟩
  · rcases k.new b m hb with h1 | ⟨a, c, d⟩
    · rcases h.new b m h1 with h0 | ⟨a, c, d⟩
      · exact .inl h0
      · exact .inr ⟨a, by omega, d.imp id fun ⟨b0, m0, e, f, g⟩ => ⟨b0, m0, e, .inl f, g⟩⟩
    · refine .inr ⟨by omega, c, ?_⟩
      rcases d with d | ⟨b0, m0, e, f, g⟩
      · exact .inl (Nat.le_trans h.fr.size d)
      · rcases h.new b0 m0 e with e0 | ⟨a', c', d'⟩
        · exact .inr ⟨b0, m0, e0, .inr f, g⟩
        · rcases d' with d' | ⟨b1, m1, e1, f1, g1⟩
          · exact .inl (by omega)
          · exact .inr ⟨b1, m1, e1, .inl f1, g1.trans g⟩
  · rw [k.fr.keep x (Nat.lt_of_lt_of_le hx h.fr.size) ?_, h.fr.keep x hx fun b m e f => hc b m e (.inl f)]
    intro b m e f
    rcases h.new b m e with e0 | ⟨a', c', d'⟩
    · exact hc b m e0 (.inr f)
    · rcases d' with d' | ⟨b1, m1, e1, f1, g1⟩
      · omega
      · have := hc b1 m1 e1 (.inl f1); omega
theorem Tr.dom {S : Nat → Prop} {σ σ' : Sig} {sup sup' : Nat} {w w' : World} (h : Tr S σ σ' sup sup' w w') (hd : Dom σ sup) (hs : sup ≤ sup') : Dom σ' sup' := by
  intro b m hb
  rcases h.new b m hb with h1 | ⟨_, c, _⟩
  · exact Nat.lt_of_lt_of_le (hd b m h1) hs
  · exact c
theorem Tr.old {S : Nat → Prop} {σ σ' : Sig} {sup sup' : Nat} {w w' : World} (h : Tr S σ σ' sup sup' w w') {b : Nat} {m : BM} (hb : σ' b = some m) (hlt : b < sup) : σ b = some m := by
  rcases h.new b m hb with h1 | ⟨a, _, _⟩
  · exact h1
  · omega
theorem Gl.mono {P : Program} {σ τ : Sig} (h : Gl P σ) (hs : σ.le τ) : Gl P τ := fun g hg => let ⟨m, a, b, c⟩ := h g hg; ⟨m, hs _ _ a, b, c⟩

/-- What an operation does to the abstract heap. -/
structure Abs (sup : Nat) (h : Heap) (r : R) : Prop where
  le : sup ≤ r.sup
  same : ∀ b, b < sup → b ∉ r.wr → r.h.get b = h.get b
  live : ∀ b, b ∈ r.wr → b < sup ∧ ∃ k, h.get b = some k
  ft : ∀ b, b ∈ r.wr → inFt r.ft b
  fresh : HF h sup → HF r.h r.sup
/-- What it leaves in the world. -/
def Post (σ : Sig) (sup : Nat) (r : R) (w : World) (v' : Value) (w' : World) : Prop :=
  ∃ σ', Tr (· ∈ r.wr) σ σ' sup r.sup w w' ∧ VR σ' r.v v' ∧ HR (fun b => inFt r.ft b ∨ sup ≤ b) σ' r.h w'

/-- All that was known is known still. -/
theorem HR.up {S : Nat → Prop} {σ σ' : Sig} {sup : Nat} {h : Heap} {r : R} {w w' : World} (k : HR S σ h w) (hd : Dom σ sup) (a : Abs sup h r) (t : Tr (· ∈ r.wr) σ σ' sup r.sup w w')
    (hn : HR (fun b => inFt r.ft b ∨ sup ≤ b) σ' r.h w') (hs : ∀ b, inFt r.ft b → S b) : HR (fun b => S b ∨ sup ≤ b) σ' r.h w' := by
  have far : ∀ b m, S b → b ∉ r.wr → σ b = some m → ∀ kk, h.get b = some kk → ∀ b' m', σ b' = some m' → b' ∈ r.wr → m'.blk ≠ m.blk := by
    intro b m hSb hw hm kk hk b' m' hm' hb' he
    obtain ⟨hlt', k', hk'⟩ := a.live b' hb'
    exact hw (k.inj b' b m' m k' kk (hs _ (a.ft b' hb')) hSb hm' hm hk' hk he ▸ hb')
  have old : ∀ b m kk, (S b ∨ sup ≤ b) → ¬ (inFt r.ft b ∨ sup ≤ b) → σ' b = some m → r.h.get b = some kk → S b ∧ σ b = some m ∧ b ∉ r.wr ∧ h.get b = some kk := by
    intro b m kk hS hf hm hk
    have hlt : b < sup := by rcases Nat.lt_or_ge b sup with h | h; exact h; exact absurd (.inr h) hf
    have hSb : S b := by rcases hS with h | h; exact h; omega
    have hw : b ∉ r.wr := fun e => hf (.inl (a.ft b e))
    exact ⟨hSb, t.old hm hlt, hw, (a.same b hlt hw) ▸ hk⟩
  have mixed : ∀ b1 b2 m1 m2 k1 k2, (inFt r.ft b1 ∨ sup ≤ b1) → (S b2 ∨ sup ≤ b2) → ¬ (inFt r.ft b2 ∨ sup ≤ b2) → σ' b1 = some m1 → σ' b2 = some m2 → r.h.get b1 = some k1 → r.h.get b2 = some k2 → m1.blk = m2.blk → b1 = b2 := by
    intro b1 b2 m1 m2 k1 k2 c1 s2 c2 e1 e2 g1 g2 he
    obtain ⟨S2, o1, o2, o3⟩ := old b2 m2 k2 s2 c2 e2 g2
    rcases t.new b1 m1 e1 with h1 | ⟨_, _, d⟩
    · have hlt1 := hd b1 m1 h1
      have hft : inFt r.ft b1 := by rcases c1 with c | c; exact c; omega
      have hlive : ∃ kk, h.get b1 = some kk := by
        by_cases hw : b1 ∈ r.wr
        · exact (a.live b1 hw).2
        · exact ⟨k1, (a.same b1 hlt1 hw) ▸ g1⟩
      obtain ⟨kk, hkk⟩ := hlive
      exact k.inj b1 b2 m1 m2 kk k2 (hs _ hft) S2 h1 o1 hkk o3 he
    · have hb := k.blk b2 m2 k2 S2 o1 o3
      rcases d with d | ⟨b0, m0, e0, f0, g0⟩
      · have := hb.lt; omega
      · exact absurd (g0.trans he) (far b2 m2 S2 o2 o1 k2 o3 b0 m0 e0 f0)
  refine ⟨fun b m kk hS hm hk => ?_, fun b1 b2 m1 m2 k1 k2 s1 s2 e1 e2 g1 g2 he => ?_⟩
  · by_cases hc : inFt r.ft b ∨ sup ≤ b
    · exact hn.blk b m kk hc hm hk
    · obtain ⟨hSb, o1, o2, o3⟩ := old b m kk hS hc hm hk
      have hb := k.blk b m kk hSb o1 o3
      exact (hb.mono t.le).keep (t.fr.keep m.blk hb.lt (fun b' m' e f => far b m hSb o2 o1 kk o3 b' m' e f))
  · by_cases c1 : inFt r.ft b1 ∨ sup ≤ b1
    · by_cases c2 : inFt r.ft b2 ∨ sup ≤ b2
      · exact hn.inj b1 b2 m1 m2 k1 k2 c1 c2 e1 e2 g1 g2 he
      · exact mixed b1 b2 m1 m2 k1 k2 c1 s2 c2 e1 e2 g1 g2 he
    · by_cases c2 : inFt r.ft b2 ∨ sup ≤ b2
      · exact (mixed b2 b1 m2 m1 k2 k1 c2 s1 c1 e2 e1 g2 g1 he.symm).symm
      · obtain ⟨S1, p1, p2, p3⟩ := old b1 m1 k1 s1 c1 e1 g1
        obtain ⟨S2, o1, o2, o3⟩ := old b2 m2 k2 s2 c2 e2 g2
        exact k.inj b1 b2 m1 m2 k1 k2 S1 S2 p1 o1 p3 o3 he
end Go.Ev
