/-
  Walks: a Book's lists of texts: one list as it grows.
-/
import Derived.Test.YtkfffoolpdilnaaGreatDoorBkG
namespace Go.Proofs.YtkfffoolpdilnaaGreatDoor
open Go.RowKit Go.Bd
structure In (O : Nat → Option Obj) (B : Nat) (w : World) (bk : Nat) (cs : Array Value) (A : Option Addr) (c : Nat) (es : List Ent) (k : Nat) (e : Ent) (hB : Nat) (hcs : Array Value) (i : Nat) (L : Value) (W : World) : Prop where
  tx : TxSt O B w W bk cs A c es
  he : es[k]? = some e
  sl : ∃ vA vc, e.v = .slice vA e.len vc ∧ (0 < e.len → ∃ b, vA = some ⟨b, 0, none⟩)
  done : ∀ (j : Nat) f, es[j]? = some f → (j < k → Gn W bk A c es k f) ∧ (k < j → W.ownsRow B 9 1 f.v f.len (List.replicate f.len (.string (wordB f.n))))
  gB : ∀ (j : Nat) f g cap, es[j]? = some f → j < k → f.lg = .slice (some ⟨g, 0, none⟩) (f.len + 40) cap → g < hB
  own : W.ownsRow B 9 1 L (e.len + i) (List.replicate (e.len + i) (.string (wordB e.n)))
  at' : L.ownBlock = e.v.ownBlock ∨ ∃ g, L.ownBlock = some g ∧ hB < g
  vlt : ∀ (j : Nat) f b, es[j]? = some f → f.v.ownBlock = some b → b < hB
  stay : ∀ b, e.v.ownBlock = some b → ∀ i, i < e.len → W.cell? ⟨b, i, none⟩ = some (.string (wordB e.n))
  hh : Holds W hB tH hcs
  sz : hB < W.heap.size
  bkl : bk < hB
  kl : ∀ (b : Nat) o, O b = some o → b < hB
  rwl : ∀ b, (Value.slice A es.length c).ownBlock = some b → b < hB
section
variable {O : Nat → Option Obj} {B : Nat} {w W W' : World} {bk : Nat} {cs : Array Value} {A : Option Addr} {c : Nat} {es : List Ent} {k : Nat} {e : Ent} {hB : Nat} {hcs : Array Value} {i : Nat} {L : Value}
theorem In.away (h : In O B w bk cs A c es k e hB hcs i L W) {b : Nat} (hb : some b = L.ownBlock) : (B ≤ b ∧ O b = none) ∧ b ≠ hB ∧ b ≠ bk ∧ (Value.slice A es.length c).ownBlock ≠ some b ∧ (∀ (j : Nat) f, j ≠ k → es[j]? = some f → f.v.ownBlock ≠ some b) ∧
    ∀ (j : Nat) f g cap, es[j]? = some f → j < k → f.lg = .slice (some ⟨g, 0, none⟩) (f.len + 40) cap → g ≠ b := by
  have h1 := (h.own.lt b hb.symm).1
  rcases h.at' with h2 | ⟨g, h2, h3⟩
  · rw [h2] at hb
    have h4 := h.vlt k e b h.he hb.symm
    refine ⟨⟨h1, h.tx.offV h.he hb.symm⟩, by omega, fun e' => (h.tx.ap k e h.he).1 (by rw [← hb, e']), fun e' => (h.tx.ap k e h.he).2 b hb.symm e', fun j f hj hf hx => h.tx.un k j e f (fun e => hj e.symm) h.he hf b hb.symm hx, fun j f g cap hf hj hl hg => ?_⟩
    obtain ⟨g', cap', e1, _, _, _, e2⟩ := ((h.done j f hf).1 hj).new
    rw [hl] at e1
    injection e1 with e1
    have e3 : g = g' := by simpa using e1
    exact e2 k e (Nat.le_refl _) h.he (by rw [← hb, ← e3, hg])
  · rw [h2] at hb
    have e0 : b = g := by simpa using hb
    subst e0
    have := h.bkl
    refine ⟨⟨h1, by cases ho : O b with | none => rfl | some o => (have := h.kl b o ho; omega)⟩, by omega, by omega, fun hx => by have := h.rwl b hx; omega, fun j f _ hf hx => by have := h.vlt j f b hf hx; omega, fun j f g cap hf hj hl hg => by have := h.gB j f g cap hf hj hl; omega⟩
theorem In.step (h : In O B w bk cs A c es k e hB hcs i L W) (hc : Chg W W' (fun b => some b = L.ownBlock)) {g cap : Nat}
    (ho : W'.ownsRow B 9 1 (.slice (some ⟨g, 0, none⟩) (e.len + i + 1) cap) (e.len + i + 1) (List.replicate (e.len + i) (.string (wordB e.n)) ++ [.string (wordB e.n)])) (ha : L.ownBlock = some g ∨ W.heap.size ≤ g)
    (hs : ∀ g0, L.ownBlock = some g0 → ∀ (j : Nat) x, (List.replicate (e.len + i) (Value.string (wordB e.n)))[j]? = some x → W'.cell? ⟨g0, j, none⟩ = some x) :
    In O B w bk cs A c es k e hB hcs (i + 1) (.slice (some ⟨g, 0, none⟩) (e.len + i + 1) cap) W' where
  tx := h.tx.chg hc (fun _ hb => (h.away hb).1) (fun hb => (h.away hb).2.2.1 rfl) (fun b hr hb => (h.away hb).2.2.2.1 hr)
  he := h.he
  sl := h.sl
  done := fun j f hf => by
    obtain ⟨d1, d2⟩ := h.done j f hf
    refine ⟨fun hj => (d1 hj).chg hc (fun b hv hb => (h.away hb).2.2.2.2.1 j f (by omega) hf hv) (fun g cap hl hb => (h.away hb).2.2.2.2.2 j f g cap hf hj hl rfl), fun hj => hc.owns (d2 hj) (fun b hv hb => (h.away hb).2.2.2.2.1 j f (by omega) hf hv)⟩
  gB := h.gB
  own := by
    rw [← List.replicate_succ'] at ho
    exact ho
  at' := by
    rcases ha with ha | ha
    · rcases h.at' with h2 | ⟨g', h2, h3⟩
      · exact .inl (by rw [← h2, ha]; rfl)
      · rw [ha] at h2
        have e0 : g = g' := by simpa using h2
        exact .inr ⟨g, rfl, by omega⟩
    · exact .inr ⟨g, rfl, by have := h.sz; omega⟩
  vlt := h.vlt
  stay := fun b hb j hj => by
    by_cases hS : some b = L.ownBlock
    · exact hs b hS.symm j _ (by rw [List.getElem?_replicate, if_pos (by omega)])
    · exact hc.cell hS (h.stay b hb j hj)
  hh := hc.holds (fun hb => (h.away hb).2.1 rfl) h.hh
  sz := Nat.lt_of_lt_of_le h.sz hc.size
  bkl := h.bkl
  kl := h.kl
  rwl := h.rwl
theorem In.done' (h : In O B w bk cs A c es k e hB hcs 40 L W) {tr : Nat} (hA : A = some ⟨tr, 0, none⟩) : ∃ g cap, L = .slice (some ⟨g, 0, none⟩) (e.len + 40) cap ∧
    TxSt O B w (W.setCell ⟨tr, k * 3 + 1, none⟩ L) bk cs A c (es.set k { e with lg := L }) ∧ Gl B (W.setCell ⟨tr, k * 3 + 1, none⟩ L) bk A c (es.set k { e with lg := L }) (k + 1) := by
  obtain ⟨g, cap, hL, _⟩ := own_some h.own (by omega)
  subst hL
  refine ⟨g, cap, rfl, h.tx.store h.he hA _ _ _ (fun b hb => (h.away hb.symm).1.2), ?_⟩
  subst hA
  have hgl := h.away (b := g) rfl
  have hc := Chg.set W ⟨tr, k * 3 + 1, none⟩ (.slice (some ⟨g, 0, none⟩) (e.len + 40) cap)
  have hvt : ∀ (j : Nat) f b, es[j]? = some f → f.v.ownBlock = some b → b ≠ tr := fun j f b hf hb e' => (h.tx.ap j f hf).2 b hb (by rw [e']; rfl)
  have hkl : k < es.length := (List.getElem?_eq_some_iff.1 h.he).1
  intro j f' hf'
  rw [List.getElem?_set] at hf'
  split at hf'
  · rename_i hk
    subst hk
    obtain rfl := Option.some.inj hf'
    refine ⟨fun _ => ⟨fun b hb i hi => hc.cell (hvt k e b h.he hb) (h.stay b hb i hi), fun b hb => Nat.lt_of_lt_of_le (Nat.lt_trans (h.vlt k e b h.he hb) h.sz) hc.size, h.sl, g, cap, rfl, fun i hi => hc.cell (fun e' => hgl.2.2.2.1 (by have e2 : g = tr := e'; rw [e2]; rfl)) (own_cell h.own (by rw [List.getElem?_replicate, if_pos hi])), hgl.2.2.1, by rw [List.length_set]; exact hgl.2.2.2.1, fun j f hj hf => ?_⟩, fun hj => absurd hj (by omega)⟩
    rw [List.getElem?_set, if_neg (by omega)] at hf
    exact hgl.2.2.2.2.1 j f (by omega) hf
  · rename_i hk
    obtain ⟨d1, d2⟩ := h.done j f' hf'
    refine ⟨fun hj => ?_, fun hj => own_far (d2 (by omega)) (fun e' => hvt j f' tr hf' e' rfl) _⟩
    have hj' : j < k := by omega
    have d := (d1 hj').chg hc (fun b hb => hvt j f' b hf' hb) (fun g' cap' hl e' => by
      obtain ⟨g2, cap2, e1, _, _, e3, _⟩ := (d1 hj').new
      rw [hl] at e1
      injection e1 with e1
      have e4 : g' = g2 := by simpa using e1
      exact e3 (by have e2 : g' = tr := e'; rw [← e4, e2]; rfl))
    obtain ⟨g2, cap2, e1, e2, e3, e4, e5⟩ := d.new
    refine ⟨d.old, d.lt, d.sl, g2, cap2, e1, e2, e3, by rw [List.length_set]; exact e4, fun i f hi hf => ?_⟩
    rw [List.getElem?_set, if_neg (by omega)] at hf
    exact e5 i f (by omega) hf
end
end Go.Proofs.YtkfffoolpdilnaaGreatDoor
