/-
  Walks: texts in memory of their own, with a mark behind; are they as they were?
-/
import Derived.Test.YtkfffoolpdilnaaGreatDoorGE
import Derived.Test.YtkfffoolpdilnaaGreatDoorChg
import Derived.Deep.QuietTactic
import Derived.BigQuiet
namespace Go.Proofs.YtkfffoolpdilnaaGreatDoor
open Go.RowKit Go.Bd
/-- the mark -/
def spareS : ByteArray := ⟨#[115, 112, 97, 114, 101]⟩
set_option maxRecDepth 100000 in
set_option maxHeartbeats 1000000 in
theorem twinTexts_any (v : Value) (xs : List ByteArray) (w : World) (B : Nat) (h : Texts w B v xs) (hB : B ≤ w.heap.size) (hl : xs.length ≤ 1048576) :
    Calls Tryz.prog 21 #[v] w fun e w' => ∃ g cap, e = .returned (.slice (some ⟨g, 0, none⟩) xs.length cap) ∧
      w'.ownsRow w.heap.size 9 1 (.slice (some ⟨g, 0, none⟩) (xs.length + 1) cap) (xs.length + 1) (xs.map Value.string ++ [.string spareS]) ∧ Below w.heap.size w w' := by
  obtain ⟨A, c, rfl, hc, f⟩ := h.form
  have F := Lib.hid f
  clear f h
  generalize hn : xs.length = n at hl hc ⊢
  have HN := Lib.hid hn
  clear hn
  have hcn : ((n + 1 : Nat) : Int) = (n : Int) + 1 := by omega
  have HC := Lib.hid hcn
  clear hcn
  go_enter Tryz.func21, Tryz.ntmps21
  go_wp2_with (at_make; refine wpList_make0 _ rfl _ _ 27 rfl w.heap.size 9 (.string ⟨#[]⟩) 16 Tryz.underlying27 str_info .i64 .i64 _ (n + 1) (by rfl) (by rfl) HC.out.symm (by omega) (by unfold maxLen; omega) (Nat.le_refl _) ?_)
  intro w1 ho1 hg1
  have hb1 : Below w.heap.size w w1 := (Below.refl _ _).grown hg1 (Nat.le_refl _) (fun k h => by cases h)
  have H1 := Lib.hid (And.intro ho1 hb1)
  clear ho1 hb1 hg1
  go_wp2
  go_loopg [3, 4] n (fun q vl vi wr => ∃ (k : Nat) (LA : Option Addr) (lc : Nat), k + q = n ∧ vi = .int .i64 (k : Int) ∧ vl = .slice LA k lc ∧ Hid (wr.ownsRow w.heap.size 9 1 (.slice LA k lc) k ((xs.map Value.string).take k) ∧ Below w.heap.size w wr))
  case atStart => exact ⟨0, _, _, by omega, rfl, rfl, by unfold Hid; simpa using H1.out⟩
  case round =>
    clear H1
    obtain ⟨k, LA, lc, hk, rfl, rfl, HR⟩ := hrel
    have hbs := HR.out.2.size
    by_cases hlt : k < n
    · obtain ⟨s, hs⟩ : ∃ s, xs[k]? = some s := ⟨_, List.getElem?_eq_getElem (by rw [HN.out]; exact hlt)⟩
      obtain ⟨b, off, rfl, hb, hcs⟩ := F.out k s hs
      replace hcs := (HR.out.2.cell (p := ⟨b, off + k, none⟩) (Nat.lt_of_lt_of_le hb hB)).trans hcs
      have HS := Lib.hid hs
      clear hs
      go_wp2_with (at_builtin; refine wpList_app1 _ rfl _ _ 27 rfl w.heap.size 9 (.string ⟨#[]⟩) 16 Tryz.underlying27 str_info rfl _ k _ rfl (HR.out.1.alloc _) _ 1 (.string s) rfl (by simp) rfl (by unfold maxLen; omega) (by omega) (by simp; omega) ?_)
      intro v2 w2 ho2 hg2
      obtain ⟨LA', lc', rfl, _⟩ := own_slice ho2
      have HE : Hid (w2.ownsRow w.heap.size 9 1 (.slice LA' (k + 1) lc') (k + 1) ((xs.map Value.string).take (k + 1)) ∧ Below w.heap.size w w2) := by
        refine ⟨?_, (HR.out.2.alloc hbs _).grown hg2 (Nat.le_trans hbs (by simp)) (fun j hj => (HR.out.1.lt j hj).1)⟩
        rw [List.take_add_one, List.getElem?_map, HS.out]
        exact ho2
      clear ho2 hg2 HR
      go_wp2
      go_roundg (gk - 1)
      case measure => omega
      case rel => exact ⟨k + 1, LA', lc', by omega, by go_num, by rfl, HE.out⟩
    · obtain rfl : k = n := by omega
      have hown : wr.ownsRow w.heap.size 9 1 (.slice LA k lc) k (xs.map Value.string) := by
        have := HR.out.1
        rw [List.take_of_length_le (by rw [List.length_map, HN.out]; exact Nat.le_refl _)] at this
        exact this
      have HB := Lib.hid HR.out.2
      clear HR
      go_wp2_with (at_builtin; refine wpList_app1 _ rfl _ _ 27 rfl w.heap.size 9 (.string ⟨#[]⟩) 16 Tryz.underlying27 str_info rfl _ k _ rfl (hown.alloc _) _ 1 (.string spareS) rfl (by simp [spareS]) rfl (by unfold maxLen; omega) (by omega) (by simp; omega) ?_)
      intro v2 w2 ho2 hg2
      obtain ⟨g, cap, rfl, _, _, hcap, _⟩ := own_some ho2 (by omega)
      have hb2 := (HB.out.alloc hbs _).grown hg2 (Nat.le_trans hbs (by simp)) (fun j hj => (hown.lt j hj).1)
      have hkc : k ≤ cap := by omega
      have HE := Lib.hid (And.intro ho2 hb2)
      clear ho2 hg2 hb2 hcap hown
      go_wp2
      go_ret
      exact ⟨g, cap, rfl, HE.out⟩
set_option maxRecDepth 100000 in
set_option maxHeartbeats 1000000 in
theorem leftTexts_any (v : Value) (xs : List ByteArray) (w : World) (B B2 g cap : Nat) (h : Texts w B v xs) (ht : w.ownsRow B2 9 1 (.slice (some ⟨g, 0, none⟩) (xs.length + 1) cap) (xs.length + 1) (xs.map Value.string ++ [.string spareS])) (hl : xs.length ≤ 1048576) :
    Calls Tryz.prog 29 #[.slice (some ⟨g, 0, none⟩) xs.length cap, v] w fun e w' => e = .returned (.bool true) ∧ Below w.heap.size w w' := by
  obtain ⟨A, c, rfl, hc, f⟩ := h.form
  have F := Lib.hid f
  have hcl : ∀ (j : Nat) s, xs[j]? = some s → w.cell? ⟨g, j, none⟩ = some (.string s) := fun j s hs => own_cell ht (by
    rw [List.getElem?_append_left (by rw [List.length_map]; exact (List.getElem?_eq_some_iff.1 hs).1), List.getElem?_map, hs]; rfl)
  have hsp : w.cell? ⟨g, xs.length, none⟩ = some (.string ⟨#[115, 112, 97, 114, 101]⟩) := own_cell ht (by
    rw [List.getElem?_append_right (by rw [List.length_map]; exact Nat.le_refl _), List.length_map, Nat.sub_self]; rfl)
  have hcap : xs.length + 1 ≤ cap := by
    obtain ⟨g', cap', hv, _, _, h1, _⟩ := own_some ht (by omega)
    injection hv with _ _ e3
    omega
  have HCL := Lib.hid hcl
  clear f h ht hcl
  generalize hn : xs.length = n at hl hc hcap hsp ⊢
  have HN := Lib.hid hn
  clear hn
  go_enter Tryz.func29, Tryz.ntmps29
  go_wp2
  go_loopg [5] n (fun q vi wr => ∃ k : Nat, k + q = n ∧ vi = .int .i64 (k : Int) ∧ Hid (Below w.heap.size w wr))
  case atStart => exact ⟨0, by omega, rfl, Below.refl _ _⟩
  case round =>
    obtain ⟨k, hk, rfl, HB⟩ := hrel
    by_cases hlt : k < n
    · obtain ⟨s, hs⟩ : ∃ s, xs[k]? = some s := ⟨_, List.getElem?_eq_getElem (by rw [HN.out]; exact hlt)⟩
      obtain ⟨b, off, rfl, hb, hcs⟩ := F.out k s hs
      have hcg := HCL.out k s hs
      have z1 := (HB.out.cell (p := ⟨b, off + k, none⟩) (World.block_lt_of_cell? w _ hcs)).trans hcs
      have z2 := (HB.out.cell (p := ⟨g, k, none⟩) (World.block_lt_of_cell? w _ hcg)).trans hcg
      clear hs hcs hcg
      go_wp2
      go_quiet (fail)
      go_wp2
      have hb2 := below_drewN HB.out nq
      go_roundg (gk - 1)
      case measure => omega
      case rel => exact ⟨k + 1, by omega, by go_num, hb2⟩
    · obtain rfl : k = n := by omega
      have z1 := (HB.out.cell (p := ⟨g, k, none⟩) (World.block_lt_of_cell? w _ hsp)).trans hsp
      go_wp2
      go_ret
      exact ⟨by simp, HB.out⟩
end Go.Proofs.YtkfffoolpdilnaaGreatDoor
