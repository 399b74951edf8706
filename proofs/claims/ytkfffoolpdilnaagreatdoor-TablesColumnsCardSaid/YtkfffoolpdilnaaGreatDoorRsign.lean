/-
  Walks: how many signs a text has, of the tables' reference.
-/
import Derived.Test.YtkfffoolpdilnaaGreatDoorGA
import Derived.Lib.DecodeN
namespace Go.Proofs.YtkfffoolpdilnaaGreatDoor
open Go.RowKit Go.Bd
/-- how many bytes the first sign has -/
def wid1 (s : ByteArray) : Nat := (Utf8.decode s 0).2
theorem get_at {s : ByteArray} {i : Nat} (h : i < s.size) : (s.get! i).toNat = s[i].toNat := by
  have e : s.get! i = s[i] := by
    show s.data[i]! = s.data[i]
    exact getElem!_pos s.data i h
  rw [e]
theorem wid1_eq (s : ByteArray) : wid1 s = (Lib.decodeN s.size (s.get! 0).toNat (s.get! 1).toNat (s.get! 2).toNat (s.get! 3).toNat).2 := by
  unfold wid1
  rw [Lib.decode_at]
  simp
theorem byte_lt (s : ByteArray) (i : Nat) : (s.get! i).toNat < 256 := UInt8.toNat_lt _
set_option maxRecDepth 100000 in
set_option maxHeartbeats 2000000 in
theorem sign_2 (s : ByteArray) (w : World) (h0 : 0 < s.size) (hs : s.size ≤ 140737488355328) (c : 192 ≤ s[0].toNat ∧ s[0].toNat < 224) :
    Calls Tryz.prog 93 #[.string s] w fun e w' => e = .returned (.int .i64 (wid1 s : Int)) ∧ w' = w := by
  have e0 := get_at h0
  have l0 := byte_lt s 0
  rw [e0] at l0
  have HW := wid1_eq s
  rw [e0] at HW
  clear e0
  by_cases z : 1 < s.size
  · have z1 : 1 < s.size := by omega
    have e1 := get_at z1
    have l1 := byte_lt s 1
    rw [e1] at HW l1
    clear e1
    by_cases b1 : 128 ≤ s[1].toNat ∧ s[1].toNat < 192
    · by_cases ok : 12544 ≤ s[0].toNat * 64 + s[1].toNat
      · skip
        have e : wid1 s = 2 := by
          rw [HW]; unfold Lib.decodeN
          (repeat' split) <;> first | rfl | omega
        rw [e]
        clear HW e
        go_enter Tryz.func93, Tryz.ntmps93
        go_wp2
        refine wp_loop_rounds 2 ?_
        rw [rounds_succ]
        go_wp2
        rw [rounds_succ]
        go_wp2
        all_goals (go_ret; exact ⟨rfl, rfl⟩)
      · skip
        have e : wid1 s = 1 := by
          rw [HW]; unfold Lib.decodeN
          (repeat' split) <;> first | rfl | omega
        rw [e]
        clear HW e
        go_enter Tryz.func93, Tryz.ntmps93
        go_wp2
        refine wp_loop_rounds 2 ?_
        rw [rounds_succ]
        go_wp2
        rw [rounds_succ]
        go_wp2
        all_goals (go_ret; exact ⟨rfl, rfl⟩)
    · by_cases c1 : s[1].toNat < 128
      · skip
        have e : wid1 s = 1 := by
          rw [HW]; unfold Lib.decodeN
          (repeat' split) <;> first | rfl | omega
        rw [e]
        clear HW e
        go_enter Tryz.func93, Tryz.ntmps93
        go_wp2
        refine wp_loop_rounds 1 ?_
        rw [rounds_succ]
        go_wp2
        all_goals (go_ret; exact ⟨rfl, rfl⟩)
      · have c1' : 192 ≤ s[1].toNat := by omega
        have e : wid1 s = 1 := by
          rw [HW]; unfold Lib.decodeN
          (repeat' split) <;> first | rfl | omega
        rw [e]
        clear HW e
        go_enter Tryz.func93, Tryz.ntmps93
        go_wp2
        refine wp_loop_rounds 1 ?_
        rw [rounds_succ]
        go_wp2
        all_goals (go_ret; exact ⟨rfl, rfl⟩)
  · have z' : s.size ≤ 1 := by omega
    have e : wid1 s = 1 := by
      rw [HW]; unfold Lib.decodeN
      (repeat' split) <;> first | rfl | omega
    rw [e]
    clear HW e
    go_enter Tryz.func93, Tryz.ntmps93
    go_wp2
    all_goals (go_ret; exact ⟨rfl, rfl⟩)
set_option maxRecDepth 100000 in
set_option maxHeartbeats 2000000 in
theorem sign_3 (s : ByteArray) (w : World) (h0 : 0 < s.size) (hs : s.size ≤ 140737488355328) (c : 224 ≤ s[0].toNat ∧ s[0].toNat < 240) :
    Calls Tryz.prog 93 #[.string s] w fun e w' => e = .returned (.int .i64 (wid1 s : Int)) ∧ w' = w := by
  have e0 := get_at h0
  have l0 := byte_lt s 0
  rw [e0] at l0
  have HW := wid1_eq s
  rw [e0] at HW
  clear e0
  by_cases z : 2 < s.size
  · have z1 : 1 < s.size := by omega
    have e1 := get_at z1
    have l1 := byte_lt s 1
    rw [e1] at HW l1
    clear e1
    by_cases b1 : 128 ≤ s[1].toNat ∧ s[1].toNat < 192
    · have z2 : 2 < s.size := by omega
      have e2 := get_at z2
      have l2 := byte_lt s 2
      rw [e2] at HW l2
      clear e2
      by_cases b2 : 128 ≤ s[2].toNat ∧ s[2].toNat < 192
      · by_cases ok : 927872 ≤ s[0].toNat * 4096 + s[1].toNat * 64 + s[2].toNat ∧ s[0].toNat * 4096 + s[1].toNat * 64 + s[2].toNat ≤ 2039935 ∧ ¬ (981120 ≤ s[0].toNat * 4096 + s[1].toNat * 64 + s[2].toNat ∧ s[0].toNat * 4096 + s[1].toNat * 64 + s[2].toNat ≤ 983167)
        · skip
          have e : wid1 s = 3 := by
            rw [HW]; unfold Lib.decodeN
            (repeat' split) <;> first | rfl | omega
          rw [e]
          clear HW e
          go_enter Tryz.func93, Tryz.ntmps93
          go_wp2
          refine wp_loop_rounds 3 ?_
          rw [rounds_succ]
          go_wp2
          rw [rounds_succ]
          go_wp2
          rw [rounds_succ]
          go_wp2
          all_goals (go_ret; exact ⟨rfl, rfl⟩)
        · by_cases o1 : s[0].toNat * 4096 + s[1].toNat * 64 + s[2].toNat < 927872
          · skip
            have e : wid1 s = 1 := by
              rw [HW]; unfold Lib.decodeN
              (repeat' split) <;> first | rfl | omega
            rw [e]
            clear HW e
            go_enter Tryz.func93, Tryz.ntmps93
            go_wp2
            refine wp_loop_rounds 3 ?_
            rw [rounds_succ]
            go_wp2
            rw [rounds_succ]
            go_wp2
            rw [rounds_succ]
            go_wp2
            all_goals (go_ret; exact ⟨rfl, rfl⟩)
          · by_cases o2 : 2039935 < s[0].toNat * 4096 + s[1].toNat * 64 + s[2].toNat
            · omega
            · have o3 : 981120 ≤ s[0].toNat * 4096 + s[1].toNat * 64 + s[2].toNat ∧ s[0].toNat * 4096 + s[1].toNat * 64 + s[2].toNat ≤ 983167 := by omega
              have e : wid1 s = 1 := by
                rw [HW]; unfold Lib.decodeN
                (repeat' split) <;> first | rfl | omega
              rw [e]
              clear HW e
              go_enter Tryz.func93, Tryz.ntmps93
              go_wp2
              refine wp_loop_rounds 3 ?_
              rw [rounds_succ]
              go_wp2
              rw [rounds_succ]
              go_wp2
              rw [rounds_succ]
              go_wp2
              all_goals (go_ret; exact ⟨rfl, rfl⟩)
      · by_cases c2 : s[2].toNat < 128
        · skip
          have e : wid1 s = 1 := by
            rw [HW]; unfold Lib.decodeN
            (repeat' split) <;> first | rfl | omega
          rw [e]
          clear HW e
          go_enter Tryz.func93, Tryz.ntmps93
          go_wp2
          refine wp_loop_rounds 2 ?_
          rw [rounds_succ]
          go_wp2
          rw [rounds_succ]
          go_wp2
          all_goals (go_ret; exact ⟨rfl, rfl⟩)
        · have c2' : 192 ≤ s[2].toNat := by omega
          have e : wid1 s = 1 := by
            rw [HW]; unfold Lib.decodeN
            (repeat' split) <;> first | rfl | omega
          rw [e]
          clear HW e
          go_enter Tryz.func93, Tryz.ntmps93
          go_wp2
          refine wp_loop_rounds 2 ?_
          rw [rounds_succ]
          go_wp2
          rw [rounds_succ]
          go_wp2
          all_goals (go_ret; exact ⟨rfl, rfl⟩)
    · by_cases c1 : s[1].toNat < 128
      · skip
        have e : wid1 s = 1 := by
          rw [HW]; unfold Lib.decodeN
          (repeat' split) <;> first | rfl | omega
        rw [e]
        clear HW e
        go_enter Tryz.func93, Tryz.ntmps93
        go_wp2
        refine wp_loop_rounds 1 ?_
        rw [rounds_succ]
        go_wp2
        all_goals (go_ret; exact ⟨rfl, rfl⟩)
      · have c1' : 192 ≤ s[1].toNat := by omega
        have e : wid1 s = 1 := by
          rw [HW]; unfold Lib.decodeN
          (repeat' split) <;> first | rfl | omega
        rw [e]
        clear HW e
        go_enter Tryz.func93, Tryz.ntmps93
        go_wp2
        refine wp_loop_rounds 1 ?_
        rw [rounds_succ]
        go_wp2
        all_goals (go_ret; exact ⟨rfl, rfl⟩)
  · have z' : s.size ≤ 2 := by omega
    have e : wid1 s = 1 := by
      rw [HW]; unfold Lib.decodeN
      (repeat' split) <;> first | rfl | omega
    rw [e]
    clear HW e
    go_enter Tryz.func93, Tryz.ntmps93
    go_wp2
    all_goals (go_ret; exact ⟨rfl, rfl⟩)
set_option maxRecDepth 100000 in
set_option maxHeartbeats 2000000 in
theorem sign_4 (s : ByteArray) (w : World) (h0 : 0 < s.size) (hs : s.size ≤ 140737488355328) (c : 240 ≤ s[0].toNat ∧ s[0].toNat < 248) :
    Calls Tryz.prog 93 #[.string s] w fun e w' => e = .returned (.int .i64 (wid1 s : Int)) ∧ w' = w := by
  have e0 := get_at h0
  have l0 := byte_lt s 0
  rw [e0] at l0
  have HW := wid1_eq s
  rw [e0] at HW
  clear e0
  by_cases z : 3 < s.size
  · have z1 : 1 < s.size := by omega
    have e1 := get_at z1
    have l1 := byte_lt s 1
    rw [e1] at HW l1
    clear e1
    by_cases b1 : 128 ≤ s[1].toNat ∧ s[1].toNat < 192
    · have z2 : 2 < s.size := by omega
      have e2 := get_at z2
      have l2 := byte_lt s 2
      rw [e2] at HW l2
      clear e2
      by_cases b2 : 128 ≤ s[2].toNat ∧ s[2].toNat < 192
      · have z3 : 3 < s.size := by omega
        have e3 := get_at z3
        have l3 := byte_lt s 3
        rw [e3] at HW l3
        clear e3
        by_cases b3 : 128 ≤ s[3].toNat ∧ s[3].toNat < 192
        · by_cases ok : 63512704 ≤ s[0].toNat * 262144 + s[1].toNat * 4096 + s[2].toNat * 64 + s[3].toNat ∧ s[0].toNat * 262144 + s[1].toNat * 4096 + s[2].toNat * 64 + s[3].toNat ≤ 64561279 ∧ ¬ (63502464 ≤ s[0].toNat * 262144 + s[1].toNat * 4096 + s[2].toNat * 64 + s[3].toNat ∧ s[0].toNat * 262144 + s[1].toNat * 4096 + s[2].toNat * 64 + s[3].toNat ≤ 63504511)
          · skip
            have e : wid1 s = 4 := by
              rw [HW]; unfold Lib.decodeN
              (repeat' split) <;> first | rfl | omega
            rw [e]
            clear HW e
            go_enter Tryz.func93, Tryz.ntmps93
            go_wp2
            refine wp_loop_rounds 4 ?_
            rw [rounds_succ]
            go_wp2
            rw [rounds_succ]
            go_wp2
            rw [rounds_succ]
            go_wp2
            rw [rounds_succ]
            go_wp2
            all_goals (go_ret; exact ⟨rfl, rfl⟩)
          · by_cases o1 : s[0].toNat * 262144 + s[1].toNat * 4096 + s[2].toNat * 64 + s[3].toNat < 63512704
            · skip
              have e : wid1 s = 1 := by
                rw [HW]; unfold Lib.decodeN
                (repeat' split) <;> first | rfl | omega
              rw [e]
              clear HW e
              go_enter Tryz.func93, Tryz.ntmps93
              go_wp2
              refine wp_loop_rounds 4 ?_
              rw [rounds_succ]
              go_wp2
              rw [rounds_succ]
              go_wp2
              rw [rounds_succ]
              go_wp2
              rw [rounds_succ]
              go_wp2
              all_goals (go_ret; exact ⟨rfl, rfl⟩)
            · by_cases o2 : 64561279 < s[0].toNat * 262144 + s[1].toNat * 4096 + s[2].toNat * 64 + s[3].toNat
              · skip
                have e : wid1 s = 1 := by
                  rw [HW]; unfold Lib.decodeN
                  (repeat' split) <;> first | rfl | omega
                rw [e]
                clear HW e
                go_enter Tryz.func93, Tryz.ntmps93
                go_wp2
                refine wp_loop_rounds 4 ?_
                rw [rounds_succ]
                go_wp2
                rw [rounds_succ]
                go_wp2
                rw [rounds_succ]
                go_wp2
                rw [rounds_succ]
                go_wp2
                all_goals (go_ret; exact ⟨rfl, rfl⟩)
              · have o3 : 63502464 ≤ s[0].toNat * 262144 + s[1].toNat * 4096 + s[2].toNat * 64 + s[3].toNat ∧ s[0].toNat * 262144 + s[1].toNat * 4096 + s[2].toNat * 64 + s[3].toNat ≤ 63504511 := by omega
                omega
        · by_cases c3 : s[3].toNat < 128
          · skip
            have e : wid1 s = 1 := by
              rw [HW]; unfold Lib.decodeN
              (repeat' split) <;> first | rfl | omega
            rw [e]
            clear HW e
            go_enter Tryz.func93, Tryz.ntmps93
            go_wp2
            refine wp_loop_rounds 3 ?_
            rw [rounds_succ]
            go_wp2
            rw [rounds_succ]
            go_wp2
            rw [rounds_succ]
            go_wp2
            all_goals (go_ret; exact ⟨rfl, rfl⟩)
          · have c3' : 192 ≤ s[3].toNat := by omega
            have e : wid1 s = 1 := by
              rw [HW]; unfold Lib.decodeN
              (repeat' split) <;> first | rfl | omega
            rw [e]
            clear HW e
            go_enter Tryz.func93, Tryz.ntmps93
            go_wp2
            refine wp_loop_rounds 3 ?_
            rw [rounds_succ]
            go_wp2
            rw [rounds_succ]
            go_wp2
            rw [rounds_succ]
            go_wp2
            all_goals (go_ret; exact ⟨rfl, rfl⟩)
      · by_cases c2 : s[2].toNat < 128
        · skip
          have e : wid1 s = 1 := by
            rw [HW]; unfold Lib.decodeN
            (repeat' split) <;> first | rfl | omega
          rw [e]
          clear HW e
          go_enter Tryz.func93, Tryz.ntmps93
          go_wp2
          refine wp_loop_rounds 2 ?_
          rw [rounds_succ]
          go_wp2
          rw [rounds_succ]
          go_wp2
          all_goals (go_ret; exact ⟨rfl, rfl⟩)
        · have c2' : 192 ≤ s[2].toNat := by omega
          have e : wid1 s = 1 := by
            rw [HW]; unfold Lib.decodeN
            (repeat' split) <;> first | rfl | omega
          rw [e]
          clear HW e
          go_enter Tryz.func93, Tryz.ntmps93
          go_wp2
          refine wp_loop_rounds 2 ?_
          rw [rounds_succ]
          go_wp2
          rw [rounds_succ]
          go_wp2
          all_goals (go_ret; exact ⟨rfl, rfl⟩)
    · by_cases c1 : s[1].toNat < 128
      · skip
        have e : wid1 s = 1 := by
          rw [HW]; unfold Lib.decodeN
          (repeat' split) <;> first | rfl | omega
        rw [e]
        clear HW e
        go_enter Tryz.func93, Tryz.ntmps93
        go_wp2
        refine wp_loop_rounds 1 ?_
        rw [rounds_succ]
        go_wp2
        all_goals (go_ret; exact ⟨rfl, rfl⟩)
      · have c1' : 192 ≤ s[1].toNat := by omega
        have e : wid1 s = 1 := by
          rw [HW]; unfold Lib.decodeN
          (repeat' split) <;> first | rfl | omega
        rw [e]
        clear HW e
        go_enter Tryz.func93, Tryz.ntmps93
        go_wp2
        refine wp_loop_rounds 1 ?_
        rw [rounds_succ]
        go_wp2
        all_goals (go_ret; exact ⟨rfl, rfl⟩)
  · have z' : s.size ≤ 3 := by omega
    have e : wid1 s = 1 := by
      rw [HW]; unfold Lib.decodeN
      (repeat' split) <;> first | rfl | omega
    rw [e]
    clear HW e
    go_enter Tryz.func93, Tryz.ntmps93
    go_wp2
    all_goals (go_ret; exact ⟨rfl, rfl⟩)
set_option maxRecDepth 100000 in
set_option maxHeartbeats 2000000 in
theorem sign_1 (s : ByteArray) (w : World) (h0 : 0 < s.size) (hs : s.size ≤ 140737488355328) (c : s[0].toNat < 192 ∨ 248 ≤ s[0].toNat) :
    Calls Tryz.prog 93 #[.string s] w fun e w' => e = .returned (.int .i64 (wid1 s : Int)) ∧ w' = w := by
  have e0 := get_at h0
  have l0 := byte_lt s 0
  rw [e0] at l0
  have HW := wid1_eq s
  rw [e0] at HW
  clear e0
  rcases c with c | c
  · skip
    have e : wid1 s = 1 := by
      rw [HW]; unfold Lib.decodeN
      (repeat' split) <;> first | rfl | omega
    rw [e]
    clear HW e
    go_enter Tryz.func93, Tryz.ntmps93
    go_wp2
    all_goals (go_ret; exact ⟨rfl, rfl⟩)
  · skip
    have e : wid1 s = 1 := by
      rw [HW]; unfold Lib.decodeN
      (repeat' split) <;> first | rfl | omega
    rw [e]
    clear HW e
    go_enter Tryz.func93, Tryz.ntmps93
    go_wp2
    all_goals (go_ret; exact ⟨rfl, rfl⟩)
theorem sign_any (s : ByteArray) (w : World) (h0 : 0 < s.size) (hs : s.size ≤ 140737488355328) :
    Calls Tryz.prog 93 #[.string s] w fun e w' => e = .returned (.int .i64 (wid1 s : Int)) ∧ w' = w := by
  by_cases c1 : s[0].toNat < 192 ∨ 248 ≤ s[0].toNat
  · exact sign_1 s w h0 hs c1
  · by_cases c2 : s[0].toNat < 224
    · exact sign_2 s w h0 hs (by omega)
    · by_cases c3 : s[0].toNat < 240
      · exact sign_3 s w h0 hs (by omega)
      · exact sign_4 s w h0 hs (by omega)
end Go.Proofs.YtkfffoolpdilnaaGreatDoor
