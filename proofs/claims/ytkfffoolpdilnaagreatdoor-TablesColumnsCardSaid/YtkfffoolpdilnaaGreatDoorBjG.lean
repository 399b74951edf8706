/-
  Walks: a Book's lists of ints: all grown.
-/
import Derived.Test.YtkfffoolpdilnaaGreatDoorBjT
import Derived.Test.YtkfffoolpdilnaaGreatDoorBkG
namespace Go.Proofs.YtkfffoolpdilnaaGreatDoor.IntB
open Go.RowKit Go.Bd
theorem int_inf2 : (Tryz.prog.info? 3).map (fun i => (i.zero, i.size, i.bytes)) = some (some (.int .i64 0), 1, 8) := by kernel_rfl
/-- a list that is grown stands, as itself and as it grew -/
structure Gn (W : World) (bk : Nat) (A : Option Addr) (c : Nat) (es : List Ent) (k : Nat) (e : Ent) : Prop where
  old : ∀ b, e.v.ownBlock = some b → ∀ i, i < e.len → W.cell? ⟨b, i, none⟩ = some (.int .i64 (imark e.n))
  lt : ∀ b, e.v.ownBlock = some b → b < W.heap.size
  sl : ∃ vA vc, e.v = .slice vA e.len vc ∧ (0 < e.len → ∃ b, vA = some ⟨b, 0, none⟩)
  new : ∃ g cap, e.lg = .slice (some ⟨g, 0, none⟩) (e.len + 40) cap ∧ (∀ i, i < e.len + 40 → W.cell? ⟨g, i, none⟩ = some (.int .i64 (imark e.n))) ∧ g ≠ bk ∧ (Value.slice A es.length c).ownBlock ≠ some g ∧ ∀ (j : Nat) f, k ≤ j → es[j]? = some f → f.v.ownBlock ≠ some g
/-- the first lists are grown, the others are filled -/
def Gl (B : Nat) (W : World) (bk : Nat) (A : Option Addr) (c : Nat) (es : List Ent) (k : Nat) : Prop :=
  ∀ (j : Nat) e, es[j]? = some e → (j < k → Gn W bk A c es k e) ∧ (k ≤ j → W.ownsRow B 3 1 e.v e.len (List.replicate e.len (.int .i64 (imark e.n))))
section
variable {O : Nat → Option Obj} {B : Nat} {w W W' : World} {bk : Nat} {cs : Array Value} {A : Option Addr} {c : Nat} {es : List Ent} {k : Nat} {e : Ent}
theorem Gn.chg {S : Nat → Prop} (h : Gn W bk A c es k e) (hc : Chg W W' S) (h1 : ∀ b, e.v.ownBlock = some b → ¬ S b) (h2 : ∀ g cap, e.lg = .slice (some ⟨g, 0, none⟩) (e.len + 40) cap → ¬ S g) : Gn W' bk A c es k e where
  old := fun b hb i hi => hc.cell (h1 b hb) (h.old b hb i hi)
  lt := fun b hb => Nat.lt_of_lt_of_le (h.lt b hb) hc.size
  sl := h.sl
  new := by
    obtain ⟨g, cap, e1, e2, e3⟩ := h.new
    exact ⟨g, cap, e1, fun i hi => hc.cell (h2 g cap e1) (e2 i hi), e3⟩
theorem TxSt.store (h : TxSt O B w W bk cs A c es) (he : es[k]? = some e) {tr : Nat} (hA : A = some ⟨tr, 0, none⟩) (lA : Option Addr) (ll lc : Nat) (hlO : ∀ b, (Value.slice lA ll lc).ownBlock = some b → O b = none) :
    TxSt O B w (W.setCell ⟨tr, k * 3 + 1, none⟩ (.slice lA ll lc)) bk cs A c (es.set k { e with lg := .slice lA ll lc }) := by
  subst hA
  have hc := Chg.set W ⟨tr, k * 3 + 1, none⟩ (.slice lA ll lc)
  have hbt : B ≤ tr := (h.row.lt tr rfl).1
  have hkb : tr ≠ bk := fun e => h.bkr (by rw [← e]; rfl)
  have hat : ∀ (i : Nat) f, (es.set k { e with lg := .slice lA ll lc })[i]? = some f → ∃ f0, es[i]? = some f0 ∧ f.v = f0.v ∧ f.n = f0.n ∧ f.len = f0.len ∧ (f.lg = f0.lg ∨ f.lg = .slice lA ll lc) := fun i f hf => by
    rw [List.getElem?_set] at hf
    split at hf
    · rename_i hk
      subst hk
      split at hf
      · obtain rfl := Option.some.inj hf
        exact ⟨e, he, rfl, rfl, rfl, .inr rfl⟩
      · cases hf
    · exact ⟨f, hf, rfl, rfl, rfl, .inl rfl⟩
  refine ⟨h.hb.trans (hc.toBelow (Nat.le_trans h.wB h.hb.size) (fun k e => by rw [e]; exact hbt)), h.wB, h.tab.keep (hc.block _ h.tab.lt (fun hs => by have := h.tabB; have : 3 = tr := hs; omega)), h.tabB, h.bkB, hc.holds (fun e => hkb e.symm) h.hbk, by rw [List.length_set]; exact h.c3, ?_, by rw [List.length_set]; exact h.bkr, ?_, ?_, fun b o ho => (hc.block b (Array.getElem?_eq_some_iff.1 (h.kp b o ho)).1 (fun e' => (h.kd b o ho).2.1 (by have e2 : b = tr := e'; rw [e2]; rfl))).trans (h.kp b o ho), fun b o ho => ⟨(h.kd b o ho).1, by rw [List.length_set]; exact (h.kd b o ho).2.1, fun i f hf => ?_⟩, fun i f b hf hb => ?_, by rw [List.length_set]; exact h.sm.1, ?_⟩
  · rw [List.length_set, ← flat_set es k e _ he]
    exact (World.ownsRow.stored h.row _ _).1
  · intro i f hf
    obtain ⟨f0, h0, e1, _⟩ := hat i f hf
    rw [List.length_set, e1]
    exact h.ap i f0 h0
  · intro i j f g hij hf hg
    obtain ⟨f0, h0, e1, _⟩ := hat i f hf
    obtain ⟨g0, h1, e2, _⟩ := hat j g hg
    rw [e1, e2]
    exact h.un i j f0 g0 hij h0 h1
  · obtain ⟨f0, h0, e1, _⟩ := hat i f hf
    rw [e1]
    exact (h.kd b o ho).2.2 i f0 h0
  · obtain ⟨f0, h0, _, _, _, e4⟩ := hat i f hf
    rcases e4 with e4 | e4
    · exact h.kl i f0 b h0 (by rw [← e4]; exact hb)
    · exact hlO b (by rw [← e4]; exact hb)
  · intro i f hf
    obtain ⟨f0, h0, _, e2, e3, e4⟩ := hat i f hf
    rw [e2, e3]
    obtain ⟨a1, a2, a3⟩ := h.sm.2 i f0 h0
    refine ⟨a1, a2, ?_⟩
    rcases e4 with e4 | e4
    · rw [e4]; exact a3
    · exact ⟨_, _, _, e4⟩
end
end Go.Proofs.YtkfffoolpdilnaaGreatDoor.IntB
