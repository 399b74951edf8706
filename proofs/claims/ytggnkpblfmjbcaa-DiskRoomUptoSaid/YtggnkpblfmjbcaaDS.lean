/-
  Walks: have two disks the same files?
-/
import Derived.Test.YtggnkpblfmjbcaaDR
namespace Go.Proofs.Ytggnkpblfmjbcaa
open Go.RowKit Go.Bd
theorem Dk.small {w : World} {F Ro : Nat → Prop} {db size : Nat} {hist : List Raw} (h : Dk w F Ro db size hist) : ∀ x ∈ namesB (runR hist), x.length ≤ 80 := by
  obtain ⟨bm, es, hv, fs, h⟩ := h
  intro x hx
  unfold namesB at hx
  rw [List.mem_mergeSort, ← h.says] at hx
  unfold fsOf at hx
  rw [List.map_map] at hx
  obtain ⟨e, he, rfl⟩ := List.mem_map.1 hx
  exact h.names e he
def baOf (x : List UInt8) : ByteArray := ⟨⟨x⟩⟩
theorem encs_map (ns : List (List UInt8)) : ns.map Go.Proofs.encStr = (ns.map baOf).map Value.string := by
  rw [List.map_map]
  rfl
set_option maxRecDepth 100000 in
set_option maxHeartbeats 2000000 in
theorem same_any {w : World} {Fa Ra Fb Rb : Nat → Prop} {da db sa sb : Nat} {hist : List Raw} (ha : Dk w Fa Ra da sa hist) (hb : Dk w Fb Rb db sb hist) (hh : hist.length ≤ 900000) :
    Calls Try.prog 12 #[.pointer (some ⟨da, 0, none⟩), .pointer (some ⟨db, 0, none⟩)] w fun e w' => e = .returned (.bool true) ∧ Below w.heap.size w w' := by
  have hsm := ha.small
  have hnl : (namesB (runR hist)).length ≤ 900000 := by
    unfold namesB
    rw [List.length_mergeSort, List.length_map]
    have := runR_len hist
    omega
  have hna := names_dk ha hh
  obtain ⟨ns, hns⟩ : ∃ ns, namesB (runR hist) = ns := ⟨_, rfl⟩
  have hnb := fun (w1 : World) (h1 : Below w.heap.size w w1) => names_dk (hb.below h1) hh
  rw [hns] at hsm hnl hna
  simp only [hns] at hnb
  have HA := Lib.hid ha
  have HB := Lib.hid hb
  have HNB := Lib.hid hnb
  have HSM := Lib.hid hsm
  clear ha hb hnb hsm hns
  go_enter Try.func12, Try.ntmps12
  go_wp2_with (first
    | (go_at_call 16; refine hna.mono ?_; clear hna; rintro e w1 ⟨v1, rfl, ho1, hb1⟩; have hn2 := HNB.out w1 hb1)
    | (go_at_call 16; refine hn2.mono ?_; clear hn2; rintro e w2 ⟨v2, rfl, ho2, hb2⟩; have ho12 := own_below ho1 hb2; have hst := sameTexts_any v1 v2 (ns.map baOf) (ns.map baOf) w2 w2.heap.size (by unfold Texts; rw [← encs_map]; exact own_rd ho12) (by unfold Texts; rw [← encs_map]; exact own_rd ho2) (by simp; omega) (by simp; omega); obtain ⟨A1, c1, rfl, _⟩ := own_slice ho12)
    | (go_at_call 25; refine hst.mono ?_; rintro e w3 ⟨rfl, hb3⟩; simp only [decide_true]))
  have hcl : ∀ (j : Nat) x, ns[j]? = some x → ∃ g, A1 = some ⟨g, 0, none⟩ ∧ g < w2.heap.size ∧ w2.cell? ⟨g, j, none⟩ = some (.string (baOf x)) := by
    intro j x hj
    obtain ⟨g, cap, hv, _, hlt, _⟩ := own_some ho12 (by have := (List.getElem?_eq_some_iff.1 hj).1; omega)
    injection hv with h1 _ h3
    subst h1; subst h3
    exact ⟨g, rfl, hlt, own_cell ho12 (by rw [List.getElem?_map, hj]; rfl)⟩
  have hb02 := hb1.trans (hb2.mono hb1.size)
  have hs2 := hb02.size
  have HCL := Lib.hid hcl
  have HB2 := Lib.hid hb02
  clear hcl hb02 hb1 hb2 ho1 ho2 ho12 hst HNB
  generalize hn : ns.length = n at hnl ⊢
  have HN := Lib.hid hn
  clear hn
  go_loopg [6, 7, 8, 9, 10] n (fun q vi _ _ _ _ wr => ∃ k : Nat, k + q = n ∧ vi = .int .i64 (k : Int) ∧ Below w2.heap.size w2 wr)
  case atStart => exact ⟨0, by omega, rfl, hb3⟩
  case round =>
    clear hb3
    obtain ⟨k, hk, rfl, hbr⟩ := hrel
    by_cases hlt : k < n
    · obtain ⟨x, hx⟩ : ∃ x, ns[k]? = some x := ⟨_, List.getElem?_eq_getElem (by rw [HN.out]; exact hlt)⟩
      obtain ⟨g, rfl, hg, hc⟩ := HCL.out k x hx
      have hc1 := (hbr.cell (p := ⟨g, k, none⟩) hg).trans hc
      have hxs := HSM.out x (List.mem_of_getElem? hx)
      have hbw := HB2.out.trans (hbr.mono hs2)
      have hxz : (baOf x).size ≤ 80 := hxs
      have hra := read_dk (HA.out.below hbw) (baOf x) (by omega) hh
      have hrb := fun (w5 : World) (h5 : Below wr.heap.size wr w5) => read_dk (HB.out.below (hbw.trans (h5.mono hbw.size))) (baOf x) (by omega) hh
      have hrl : (readB (runR hist) (baOf x)).1.length ≤ 140737488355328 := by
        obtain ⟨bm, es, hv, fs, hD⟩ := HA.out
        have hu := hD.used_le
        rw [hD.says] at hu
        unfold readB
        split
        · split
          · rename_i c hc
            have h1 := used_del (uniq_runR hist) (baOf x)
            rw [hc] at h1
            simp only [Option.getD_some] at h1
            show c.length ≤ _
            omega
          · simp
        · simp
      generalize readB (runR hist) (baOf x) = rr at hra hrb hrl
      have HRB := Lib.hid hrb
      have HBR := Lib.hid hbr
      clear hrb hbr hc hx hbw
      have hsr := HBR.out.size
      go_wp2_with (first
        | (go_at_call 13; refine hra.mono ?_; clear hra; rintro e w4 ⟨v4, rfl, ho4, hb4⟩; have hr2 := HRB.out w4 hb4; have hc1 := (hb4.cell (p := ⟨g, k, none⟩) (by show g < _; omega)).trans hc1)
        | (go_at_call 13; refine hr2.mono ?_; clear hr2; rintro e w5 ⟨v5, rfl, ho5, hb5⟩; have ho45 := own_below ho4 hb5; have hsb := sameBytes_any v4 v5 rr.1 rr.1 w5 w5.heap.size (own_rd ho45) (own_rd ho5) (by omega) (by omega))
        | (go_at_call 14; refine hsb.mono ?_; rintro e w6 ⟨rfl, hb6⟩; simp only [decide_true]))
      have hb46 : Below wr.heap.size wr w6 := (hb4.trans (hb5.mono hb4.size)).trans (hb6.mono (Nat.le_trans hb4.size hb5.size))
      go_roundg (gk - 1)
      case measure => omega
      case rel => exact ⟨k + 1, by omega, by go_num, HBR.out.trans (hb46.mono hsr)⟩
    · go_wp2
      go_ret
      exact ⟨rfl, HB2.out.trans (hbr.mono hs2)⟩
end Go.Proofs.Ytggnkpblfmjbcaa
