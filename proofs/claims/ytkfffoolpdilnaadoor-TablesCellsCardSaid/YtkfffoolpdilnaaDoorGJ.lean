/-
  The law TablesCells: its walk.
-/
import Derived.Test.YtkfffoolpdilnaaDoorGI
import Derived.Test.YtkfffoolpdilnaaDoorGG
namespace Go.Proofs.YtkfffoolpdilnaaDoor
open Go.RowKit Go.Bd
theorem count_take_succ {s : ByteArray} {k : Nat} (h : k < s.size) : (s.data.toList.take (k + 1)).count 124 = (s.data.toList.take k).count 124 + if ((s[k].toNat : Int) == 124) = true then 1 else 0 := by
  have hk : k < s.data.toList.length := by rw [← size_list]; exact h
  rw [List.take_succ_eq_append_getElem hk, List.count_append, List.count_singleton]
  congr 1
  have e : s.data.toList[k] = s[k] := rfl
  rw [e]
  by_cases hb : s[k] = 124
  · rw [hb]; rfl
  · have h1 : (s[k] == (124 : UInt8)) = false := by simpa using hb
    have h2 : ((s[k].toNat : Int) == 124) = false := by
      rw [beq_eq_false_iff_ne]
      intro e2
      exact hb (UInt8.toNat_inj.1 (by show s[k].toNat = 124; omega))
    rw [h1, h2]
theorem rowOf_size {s x : ByteArray} (h : x ∈ rowOf s) : x.size ≤ s.size := by
  obtain ⟨p, hp, rfl⟩ := List.mem_map.1 (mem_dropEnd h)
  refine Nat.le_trans (tr_le p) (Nat.le_trans (pieces_size hp) ?_)
  rw [size_mk]
  have h1 : (Lib.trimPrefix (trim s.data.toList) [124]).length ≤ (trim s.data.toList).length := by
    unfold Lib.trimPrefix; split <;> simp
  have h2 := trim_le s.data.toList
  rw [size_list]; omega
theorem count_le_len (s : ByteArray) (k : Nat) : (s.data.toList.take k).count 124 ≤ k := Nat.le_trans List.count_le_length (by simp; omega)
set_option maxRecDepth 100000 in
set_option maxHeartbeats 2000000 in
theorem tablesCells_any (s : ByteArray) (m : Int) (w : World) (hm : w.cell? ⟨0, 0, none⟩ = some (.int .i64 m)) (hs : s.size ≤ 140737488355328) :
    Calls Tryd.prog 4 #[.string s] w fun e w' => e = .returned (.bool true) ∧ Below w.heap.size w w' := by
  have hw0 : 0 < w.heap.size := World.block_lt_of_cell? w _ hm
  have k := fun {W : World} (h : Below w.heap.size w W) => (h.cell (p := ⟨0, 0, none⟩) hw0).trans hm
  by_cases hbig : 1048576 < s.size
  · have B := fun W => beyond_one s.size W hs
    rw [decide_eq_true hbig] at B
    go_enter Tryd.func4, Tryd.ntmps4
    go_wp2_with fail
    refine (alive_any m w hm).mono ?_
    rintro e w1 ⟨rfl, hb⟩
    go_wp2_with (go_at_call 14; refine (B _).mono ?_; rintro e w' ⟨rfl, rfl⟩)
    replace hb := hb.alloc hb.size (.cells #[.int .i64 s.size] 3)
    refine (alive_any m _ (k hb)).mono ?_
    rintro e w2 ⟨rfl, hb2⟩
    go_wp2
    go_ret
    exact ⟨rfl, hb.trans (hb2.mono hb.size)⟩
  · have B := fun W => beyond_one s.size W hs
    rw [decide_eq_false hbig] at B
    have P1 := fun W h => row_some (bar ++ s) W m h (by rw [ByteArray.size_append]; show 1 + _ ≤ _; omega) (begins_bar s)
    have P2 := fun W => row_none (⟨#[120]⟩ ++ s) W (by rw [ByteArray.size_append]; show 1 + _ ≤ _; omega) (begins_x s)
    have HR := Lib.hid (rowOf_count s)
    have HCL := Lib.hid (fun x (hx : x ∈ rowOf (bar ++ s)) => rowOf_clean hx)
    have HSZ : Hid (∀ x ∈ rowOf (bar ++ s), x.size ≤ 140737488355328) := fun x hx => Nat.le_trans (rowOf_size hx) (by rw [ByteArray.size_append]; show 1 + _ ≤ _; omega)
    generalize rowOf (bar ++ s) = R at P1 HR HCL HSZ
    unfold bar at P1
    go_enter Tryd.func4, Tryd.ntmps4
    go_wp2_with fail
    refine (alive_any m w hm).mono ?_
    rintro e w1 ⟨rfl, hb⟩
    go_wp2_with (go_at_call 14; refine (B _).mono ?_; rintro e w' ⟨rfl, rfl⟩)
    replace hb := hb.alloc hb.size (.cells #[.int .i64 s.size] 3)
    refine (P1 _ (k hb)).mono ?_
    rintro e w2 ⟨v2, rfl, ho2, hb2⟩
    replace hb2 := hb.trans (hb2.mono hb.size)
    clear hb P1 B
    go_wp2_with fail
    refine (P2 _).mono ?_
    rintro e w3 ⟨rfl, hb3⟩
    have ho3 := own_rd (own_below ho2 hb3)
    replace hb3 := hb2.trans (hb3.mono hb2.size)
    clear ho2 hb2 P2
    have hRl : R.length ≤ 1048577 := by
      have h0 := HR.out
      have h1 := count_le_len s s.size
      rw [List.take_of_length_le (by rw [← size_list]; exact Nat.le_refl _)] at h1
      omega
    obtain ⟨A, c, rfl, hc, f⟩ := (show Texts w3 w3.heap.size v2 R from ho3).form
    have F := Lib.hid f
    clear f ho3
    generalize hRn : R.length = rn at hRl hc
    have HRN := Lib.hid hRn
    clear hRn k
    go_wp2_with fail
    go_loopg [7, 8] s.size (fun r n i wr => ∃ k t : Nat, k + r = s.size ∧ i = .int .i64 k ∧ n = .int .i64 t ∧ Hid (t = (s.data.toList.take k).count 124 + 1) ∧ t ≤ k + 1 ∧ w3 = wr)
    case atStart => exact ⟨0, 1, by omega, rfl, rfl, by unfold Hid; simp, by omega, rfl⟩
    case round =>
      obtain ⟨k, t, hk, rfl, rfl, HT, htk, rfl⟩ := hrel
      by_cases hlt : k < s.size
      · have HS := Lib.hid (count_take_succ hlt)
        by_cases hb : ((s[k].toNat : Int) == 124) = true
        · go_wp2
          go_roundg (gk - 1)
          case measure => omega
          case rel =>
            refine ⟨k + 1, t + 1, by omega, by go_num, by go_num, ?_, by omega, rfl⟩
            unfold Hid
            rw [HS.out, if_pos hb, HT.out]
        · have hb' : ((s[k].toNat : Int) == 124) = false := by simpa using hb
          have HB := Lib.hid hb
          clear hb
          go_wp2
          go_roundg (gk - 1)
          case measure => omega
          case rel =>
            refine ⟨k + 1, t, by omega, by go_num, rfl, ?_, by omega, rfl⟩
            unfold Hid
            rw [HS.out, if_neg HB.out, HT.out]
      · have HTN : Hid (t = s.data.toList.count 124 + 1) := by
          unfold Hid
          rw [HT.out, List.take_of_length_le (by rw [← size_list]; omega)]
        clear HT
        have htb : t ≤ 1048577 := by omega
        have ht1 : 1 ≤ t := by have := HTN.out; omega
        have hR : rn = t ∨ (1 < t ∧ rn = t - 1) := by
          have h1 := HR.out; have h2 := HTN.out; have h3 := HRN.out; omega
        have HR2 := Lib.hid hR
        clear hR HTN HR
        go_wp2
        go_loopg [9] rn (fun r i wr => ∃ k : Nat, k + r = rn ∧ i = .int .i64 k ∧ w3 = wr)
        case atStart => exact ⟨0, by omega, rfl, rfl⟩
        case round =>
          obtain ⟨j, hj, rfl, rfl⟩ := hrel
          by_cases hjl : j < rn
          · obtain ⟨x, hx⟩ : ∃ x, R[j]? = some x := ⟨_, List.getElem?_eq_getElem (by rw [HRN.out]; exact hjl)⟩
            obtain ⟨b2, o2, rfl, _, hcx⟩ := F.out j x hx
            have hcl := HCL.out x (List.mem_of_getElem? hx)
            have hsz := HSZ.out x (List.mem_of_getElem? hx)
            have cc := clean_any x w3 hsz
            rw [hcl] at cc
            clear hx hcl
            go_wp2_with (go_at_call 11; refine cc.mono ?_; rintro e w' ⟨rfl, rfl⟩)
            go_roundg (gk - 1)
            case measure => omega
            case rel => exact ⟨j + 1, by omega, by go_num, rfl⟩
          · by_cases heq : rn = t
            · subst heq
              go_wp2
              go_ret
              exact ⟨rfl, hb3⟩
            · obtain ⟨h1, h2⟩ : 1 < t ∧ rn = t - 1 := by have := HR2.out; omega
              obtain ⟨u, rfl⟩ : ∃ u, t = u + 1 := ⟨t - 1, by omega⟩
              obtain rfl : rn = u := by omega
              clear h2 heq HR2
              have hne : ((rn : Int) == ((rn : Int) + 1)) = false := by simp; omega
              go_wp2
              go_ret
              exact ⟨rfl, hb3⟩
end Go.Proofs.YtkfffoolpdilnaaDoor
