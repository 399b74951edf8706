/-
  Walks: rows of texts in memory of their own, with a mark behind each; are they as they were?
-/
import Derived.Test.YtkfffoolpdilnaaGreatDoorTwT
import Derived.Test.YtkfffoolpdilnaaGreatDoorApK
import Derived.Test.YtkfffoolpdilnaaGreatDoorBkT
namespace Go.Proofs.YtkfffoolpdilnaaGreatDoor
open Go.RowKit Go.Bd
theorem strs_info : (Tryz.prog.info? 27).map (fun i => (i.zero, i.size, i.bytes)) = some (some (.slice none 0 0), 1, 24) := by kernel_rfl
/-- the values of such rows -/
def gridV : List (List ByteArray) → List (Nat × Nat) → List Value
  | r :: ls, p :: gs => .slice (some ⟨p.1, 0, none⟩) r.length p.2 :: gridV ls gs
  | _, _ => []
theorem gridV_length : ∀ {ls : List (List ByteArray)} {gs : List (Nat × Nat)}, gs.length = ls.length → (gridV ls gs).length = ls.length
  | [], [], _ => rfl
  | [], _ :: _, h => by simp at h
  | _ :: _, [], h => by simp at h
  | r :: ls, p :: gs, h => by rw [gridV, List.length_cons, List.length_cons, gridV_length (by simpa using h)]
theorem gridV_at : ∀ {ls : List (List ByteArray)} {gs : List (Nat × Nat)} {j : Nat} {r : List ByteArray} {p : Nat × Nat}, ls[j]? = some r → gs[j]? = some p → (gridV ls gs)[j]? = some (.slice (some ⟨p.1, 0, none⟩) r.length p.2)
  | [], _, _, _, _, h, _ => by simp at h
  | _ :: _, [], _, _, _, _, h => by simp at h
  | r :: ls, p :: gs, 0, r', p', h1, h2 => by
    simp at h1 h2
    subst h1; subst h2
    rfl
  | r :: ls, p :: gs, j + 1, r', p', h1, h2 => by
    rw [gridV, List.getElem?_cons_succ]
    exact gridV_at (by simpa using h1) (by simpa using h2)
theorem gridV_snoc : ∀ {ls : List (List ByteArray)} {gs : List (Nat × Nat)} (r : List ByteArray) (p : Nat × Nat), gs.length = ls.length → gridV (ls ++ [r]) (gs ++ [p]) = gridV ls gs ++ [.slice (some ⟨p.1, 0, none⟩) r.length p.2]
  | [], [], _, _, _ => rfl
  | [], _ :: _, _, _, h => by simp at h
  | _ :: _, [], _, _, h => by simp at h
  | r' :: ls, p' :: gs, r, p, h => by rw [List.cons_append, List.cons_append, gridV, gridV, gridV_snoc r p (by simpa using h), List.cons_append]
/-- rows in memory of their own, all unlike, a mark behind each -/
structure TwGrid (w : World) (B : Nat) (LA : Option Addr) (lc : Nat) (ls : List (List ByteArray)) (gs : List (Nat × Nat)) : Prop where
  len : gs.length = ls.length
  own : w.ownsRow B 27 1 (.slice LA ls.length lc) ls.length (gridV ls gs)
  row : ∀ (j : Nat) r p, ls[j]? = some r → gs[j]? = some p → w.ownsRow B 9 1 (.slice (some ⟨p.1, 0, none⟩) (r.length + 1) p.2) (r.length + 1) (r.map Value.string ++ [.string spareS])
  un : ∀ (i j : Nat) p q, i ≠ j → gs[i]? = some p → gs[j]? = some q → p.1 ≠ q.1
  ap : ∀ (i : Nat) p, gs[i]? = some p → (Value.slice LA ls.length lc).ownBlock ≠ some p.1
section
variable {w w' : World} {B : Nat} {LA : Option Addr} {lc : Nat} {ls : List (List ByteArray)} {gs : List (Nat × Nat)}
theorem TwGrid.lt (h : TwGrid w B LA lc ls gs) {j : Nat} {p : Nat × Nat} (hp : gs[j]? = some p) : B ≤ p.1 ∧ p.1 < w.heap.size := by
  obtain ⟨r, hr⟩ : ∃ r, ls[j]? = some r := ⟨_, List.getElem?_eq_getElem (by have := h.len; have := (List.getElem?_eq_some_iff.1 hp).1; omega)⟩
  exact (h.row j r p hr hp).lt p.1 rfl
theorem TwGrid.below (h : TwGrid w B LA lc ls gs) (hb : Below w.heap.size w w') : TwGrid w' B LA lc ls gs :=
  ⟨h.len, own_below h.own hb, fun j r p hr hp => own_below (h.row j r p hr hp) hb, h.un, h.ap⟩
theorem TwGrid.chg {S : Nat → Prop} (h : TwGrid w B LA lc ls gs) (hc : Chg w w' S) (h1 : ∀ b, (Value.slice LA ls.length lc).ownBlock = some b → ¬ S b) (h2 : ∀ (j : Nat) p, gs[j]? = some p → ¬ S p.1) : TwGrid w' B LA lc ls gs :=
  ⟨h.len, hc.owns h.own h1, fun j r p hr hp => hc.owns (h.row j r p hr hp) (fun b hb => by rw [← (show p.1 = b from (by simpa [Value.ownBlock] using hb))]; exact h2 j p hp), h.un, h.ap⟩
/-- it reads as rows -/
theorem TwGrid.grid (h : TwGrid w B LA lc ls gs) : Grid w w.heap.size (.slice LA ls.length lc) ls := by
  refine ⟨gridV ls gs, own_rd h.own, gridV_length h.len, fun j r hr => ?_⟩
  obtain ⟨p, hp⟩ : ∃ p, gs[j]? = some p := ⟨_, List.getElem?_eq_getElem (by have := h.len; have := (List.getElem?_eq_some_iff.1 hr).1; omega)⟩
  refine ⟨_, gridV_at hr hp, ?_⟩
  obtain ⟨v', rfl, ho⟩ := own_take (h.row j r p hr hp) (j := r.length) (by omega)
  have := own_rd ho
  rw [Nat.mul_one, List.take_left' (by simp)] at this
  exact this
theorem TwGrid.push (h : TwGrid w B LA lc ls gs) {w2 w3 : World} {r : List ByteArray} {g cap gO co : Nat} (hb : Below w.heap.size w w2) (hB : B ≤ w.heap.size)
    (hr : w2.ownsRow w.heap.size 9 1 (.slice (some ⟨g, 0, none⟩) (r.length + 1) cap) (r.length + 1) (r.map Value.string ++ [.string spareS]))
    (hc : Chg w2 w3 (fun b => some b = (Value.slice LA ls.length lc).ownBlock)) (ho : w3.ownsRow B 27 1 (.slice (some ⟨gO, 0, none⟩) (ls.length + 1) co) (ls.length + 1) (gridV ls gs ++ [.slice (some ⟨g, 0, none⟩) r.length cap]))
    (hat : (Value.slice LA ls.length lc).ownBlock = some gO ∨ w2.heap.size ≤ gO) : TwGrid w3 B (some ⟨gO, 0, none⟩) co (ls ++ [r]) (gs ++ [(g, cap)]) := by
  have hg := hr.lt g rfl
  have hL : (ls ++ [r]).length = ls.length + 1 := by simp
  have hO : ∀ b, (Value.slice LA ls.length lc).ownBlock = some b → b < w.heap.size := fun b hb => (h.own.lt b hb).2
  have hgO : gO ≠ g := fun e => by
    rcases hat with h1 | h1
    · have := hO gO h1; omega
    · omega
  have hs2 := hb.size
  have get : ∀ (i : Nat) p, (gs ++ [(g, cap)])[i]? = some p → (gs[i]? = some p ∧ i < gs.length) ∨ (i = gs.length ∧ p = (g, cap)) := fun i p hp => by
    by_cases hi : i < gs.length
    · rw [List.getElem?_append_left hi] at hp; exact .inl ⟨hp, hi⟩
    · rw [List.getElem?_append_right (by omega)] at hp
      obtain ⟨h1, h2⟩ := List.getElem?_eq_some_iff.1 hp
      simp at h1 h2
      exact .inr ⟨by omega, h2.symm⟩
  refine ⟨by simp [h.len], by rw [hL, gridV_snoc _ _ h.len]; exact ho, fun j r' p hr' hp => ?_, fun i j p q hij hp hq => ?_, fun i p hp => ?_⟩
  · rcases get j p hp with ⟨h1, h2⟩ | ⟨h1, rfl⟩
    · rw [List.getElem?_append_left (by have := h.len; omega)] at hr'
      refine hc.owns (own_below (h.row j r' p hr' h1) hb) (fun b hb' e => ?_)
      have e2 : p.1 = b := by simpa [Value.ownBlock] using hb'
      exact h.ap j p h1 (by rw [e2]; exact e.symm)
    · rw [List.getElem?_append_right (by have := h.len; omega), h1, h.len, Nat.sub_self] at hr'
      obtain rfl : r = r' := by simpa using hr'
      refine hc.owns (own_mono hr hB) (fun b hb' e => ?_)
      have e2 : g = b := by simpa [Value.ownBlock] using hb'
      have := hO b e.symm
      omega
  · rcases get i p hp with ⟨h1, h2⟩ | ⟨h1, rfl⟩ <;> rcases get j q hq with ⟨h3, h4⟩ | ⟨h3, rfl⟩
    · exact h.un i j p q hij h1 h3
    · have := (h.lt h1).2; omega
    · have := (h.lt h3).2; omega
    · omega
  · rw [hL]
    intro e
    have e1 : gO = p.1 := by simpa [Value.ownBlock] using e
    rcases get i p hp with ⟨h1, h2⟩ | ⟨h1, rfl⟩
    · rcases hat with h3 | h3
      · exact h.ap i p h1 (by rw [h3, e1])
      · have := (h.lt h1).2; omega
    · exact hgO e1
end
set_option maxRecDepth 100000 in
set_option maxHeartbeats 1000000 in
theorem twinGrid_any (v : Value) (ls : List (List ByteArray)) (w : World) (B : Nat) (h : Grid w B v ls) (hB : B ≤ w.heap.size) (hl : ls.length ≤ 1048576) (hr : ∀ r ∈ ls, r.length ≤ 1048576) :
    Calls Tryz.prog 6 #[v] w fun e w' => ∃ LA lc gs, e = .returned (.slice LA ls.length lc) ∧ TwGrid w' w.heap.size LA lc ls gs ∧ Below w.heap.size w w' := by
  obtain ⟨A, c, rfl, hc, f⟩ := h.form
  have F := Lib.hid f
  have HR := Lib.hid hr
  clear f h hr
  generalize hn : ls.length = n at hl hc ⊢
  have HN := Lib.hid hn
  clear hn
  go_enter Tryz.func6, Tryz.ntmps6
  go_wp2
  go_loopg [3, 4] n (fun q vl vi wr => ∃ (k : Nat) (LA : Option Addr) (lc : Nat), k + q = n ∧ vi = .int .i64 (k : Int) ∧ vl = .slice LA k lc ∧ Hid (∃ gs, TwGrid wr w.heap.size LA lc (ls.take k) gs ∧ (ls.take k).length = k ∧ Below w.heap.size w wr))
  case atStart => exact ⟨0, none, 0, by omega, rfl, rfl, [], ⟨rfl, World.ownsRow_nil _ _ _ _, (fun _ _ _ h => by simp at h), (fun _ _ _ _ _ h => by simp at h), (fun _ _ h => by simp at h)⟩, rfl, Below.refl _ _⟩
  case round =>
    obtain ⟨k, LA, lc, hk, rfl, rfl, HS⟩ := hrel
    by_cases hlt : k < n
    · obtain ⟨r, hrk⟩ : ∃ r, ls[k]? = some r := ⟨_, List.getElem?_eq_getElem (by rw [HN.out]; exact hlt)⟩
      obtain ⟨b, off, rA, rc, rfl, hbB, hcr, htx⟩ := F.out k r hrk
      obtain ⟨gs, hT, hlk, hbl⟩ := HS.out
      replace hcr := (hbl.cell (p := ⟨b, off + k, none⟩) (Nat.lt_of_lt_of_le hbB hB)).trans hcr
      have ct := twinTexts_any (.slice rA r.length rc) r wr B (htx.keep (fun p hp => hbl.cell (Nat.lt_of_lt_of_le hp hB))) (Nat.le_trans hB hbl.size) (HR.out r (List.mem_of_getElem? hrk))
      have H := Lib.hid (And.intro hT (And.intro hlk (And.intro hbl hrk)))
      clear hT hlk hbl htx hrk HS
      go_wp2_with fail
      refine ct.mono ?_
      clear ct
      rintro e w2 ⟨g, cap, rfl, ho2, hb2⟩
      have hrl := HR.out r (List.mem_of_getElem? H.out.2.2.2)
      have ho1 := H.out.1.own
      rw [H.out.2.1] at ho1
      have ho1' := own_below ho1 hb2
      have hs2 := hb2.size
      have hs0 := H.out.2.2.1.size
      have H2 := Lib.hid (And.intro ho1' (And.intro ho2 hb2))
      clear ho1 ho1' ho2 hb2
      go_wp2_with (at_builtin; refine wpList_append_stays _ rfl _ _ 22 rfl w.heap.size 27 (.slice none 0 0) 24 Tryz.underlying22 strs_info rfl _ k _ rfl (H2.out.1.alloc _) _ 1 (.slice (some ⟨g, 0, none⟩) r.length cap) rfl (by simp) rfl (by unfold maxLen; omega) (by omega) (by simp; omega) ?_)
      intro gO co w3 ho3 hg3 ha3 _
      have hc3 : Chg w2 w3 (fun b => some b = (Value.slice LA (ls.take k).length lc).ownBlock) := by
        rw [H.out.2.1]
        exact ((Chg.refl w2 _).alloc _).trans (Chg.grown hg3) (fun _ _ h => h)
      have htk : ls.take (k + 1) = ls.take k ++ [r] := by rw [List.take_add_one, H.out.2.2.2]; rfl
      have HF : Hid (∃ gs, TwGrid w3 w.heap.size (some ⟨gO, 0, none⟩) co (ls.take (k + 1)) gs ∧ (ls.take (k + 1)).length = k + 1 ∧ Below w.heap.size w w3) := by
        refine ⟨gs ++ [(g, cap)], ?_, by rw [htk, List.length_append, H.out.2.1]; rfl, ?_⟩
        · rw [htk]
          refine H.out.1.push H2.out.2.2 hs0 H2.out.2.1 hc3 (by rw [H.out.2.1]; exact ho3) ?_
          rw [H.out.2.1]
          rcases ha3 with h | h
          · exact .inl h
          · exact .inr (by rw [h]; simp)
        · refine (H.out.2.2.1.trans (H2.out.2.2.mono hs0)).trans (hc3.toBelow (Nat.le_trans hs0 hs2) (fun b hb => (H.out.1.own.lt b hb.symm).1))
      clear ho3 hg3 ha3 hc3 htk H2 H
      go_wp2
      go_roundg (gk - 1)
      case measure => omega
      case rel => exact ⟨k + 1, some ⟨gO, 0, none⟩, co, by omega, by go_num, by rfl, HF.out⟩
    · obtain rfl : k = n := by omega
      obtain ⟨gs, hT, hlk, hbl⟩ := HS.out
      rw [List.take_of_length_le (by rw [HN.out]; exact Nat.le_refl _)] at hT
      have H := Lib.hid (And.intro hT hbl)
      clear hT hlk hbl HS
      go_wp2
      go_ret
      exact ⟨LA, lc, gs, rfl, H.out⟩
end Go.Proofs.YtkfffoolpdilnaaGreatDoor
