/-
  What the chapter's laws share, part 2: plain facts, memory, and walks of functions. Its conditions: those that each theorem names.
-/
import Derived.Lib.EndianBits
import Derived.Laws.Cover3
import Derived.RangeFuncNested
import Derived.RangeFuncBound
import Derived.RangeFuncCalls
import Derived.RangeFuncLeaves
import Derived.RangeFuncBox
import Derived.Shelf.Abstract
import Derived.Shelf.RegionOpen
import Derived.OwnWalkIn
import Derived.TacticsInMore
import Derived.LoopNIn
import Derived.LoopIn
import Derived.Test.YtmldpehkacemfaaGreatDoorK1
set_option linter.unusedSimpArgs false
set_option linter.unusedVariables false
namespace Go.Proofs.YtmldpehkacemfaaGreatDoor
open Go.RowKit Go.Bd
theorem or_step {i n b : Nat} (hi : i < 8) (hn : n < 256 ^ i) (hb : b < 256) : bits BinOp.or IntKind.u64 (n : Int) (IntKind.u64.wrap ((b : Int) * 2 ^ (8 * i))) = ((n + b * 256 ^ i : Nat) : Int) := by
  have h1 : i = 0 ∨ i = 1 ∨ i = 2 ∨ i = 3 ∨ i = 4 ∨ i = 5 ∨ i = 6 ∨ i = 7 := by omega
  rcases h1 with rfl | rfl | rfl | rfl | rfl | rfl | rfl | rfl <;> simp only [Nat.reduceMul, Nat.reducePow, Int.reducePow] at hn ⊢ <;> rw [wraps_u64 _ (by omega) (by omega)]
  · rw [bits_join_low .u64 64 (by decide) wraps_u64 0 _ _ (by omega) (by omega) (by omega) (by omega) (by omega) (by omega)]; omega
  · rw [bits_join_low .u64 64 (by decide) wraps_u64 8 _ _ (by omega) (by omega) (by omega) (by omega) (by omega) (by omega)]; omega
  · rw [bits_join_low .u64 64 (by decide) wraps_u64 16 _ _ (by omega) (by omega) (by omega) (by omega) (by omega) (by omega)]; omega
  · rw [bits_join_low .u64 64 (by decide) wraps_u64 24 _ _ (by omega) (by omega) (by omega) (by omega) (by omega) (by omega)]; omega
  · rw [bits_join_low .u64 64 (by decide) wraps_u64 32 _ _ (by omega) (by omega) (by omega) (by omega) (by omega) (by omega)]; omega
  · rw [bits_join_low .u64 64 (by decide) wraps_u64 40 _ _ (by omega) (by omega) (by omega) (by omega) (by omega) (by omega)]; omega
  · rw [bits_join_low .u64 64 (by decide) wraps_u64 48 _ _ (by omega) (by omega) (by omega) (by omega) (by omega) (by omega)]; omega
  · rw [bits_join_low .u64 64 (by decide) wraps_u64 56 _ _ (by omega) (by omega) (by omega) (by omega) (by omega) (by omega)]; omega
theorem val8_snoc : ∀ (l : Bs) (b : UInt8), val8 (l ++ [b]) = val8 l + b.toNat * 256 ^ l.length
  | [], b => by simp [val8]
  | c :: l, b => by
    rw [List.cons_append, val8, val8, val8_snoc l b, List.length_cons, Nat.pow_succ]
    rw [Nat.mul_add, ← Nat.mul_assoc, Nat.mul_comm 256 b.toNat, Nat.mul_assoc, Nat.mul_comm 256 (256 ^ l.length)]
    omega
structure RdrAt (w : World) (rb B : Nat) (A : Option Addr) (c : Nat) (bad : Bool) (l : Bs) : Prop where
  h : Holds w rb 120 #[.slice A l.length c, .bool bad]
  le : l.length ≤ c
  lt : B ≤ rb
  at' : (A = none ∧ l = [] ∧ c = 0) ∨ ∃ blk off, A = some ⟨blk, off, none⟩ ∧ blk < B ∧ ∀ (j : Nat) b, l[j]? = some b → w.cell? ⟨blk, off + j, none⟩ = some (.int .u8 (b.toNat : Int))
theorem RdrAt.chg {w w' : World} {rb B : Nat} {A : Option Addr} {c : Nat} {bad : Bool} {l : Bs} {S : Nat → Prop} (h : RdrAt w rb B A c bad l) (hc : Chg w w' S) (hr : ¬ S rb) (hS : ∀ k, k < B → ¬ S k) : RdrAt w' rb B A c bad l := by
  refine ⟨hc.holds hr h.h, h.le, h.lt, ?_⟩
  rcases h.at' with h1 | ⟨blk, off, rfl, h1, h2⟩
  · exact .inl h1
  · exact .inr ⟨blk, off, rfl, h1, fun j b hb => hc.cell (p := ⟨blk, off + j, none⟩) (hS _ h1) (h2 j b hb)⟩
theorem RdrAt.some' {w : World} {rb B : Nat} {A : Option Addr} {c : Nat} {bad : Bool} {l : Bs} (h : RdrAt w rb B A c bad l) (hl : 0 < l.length) : ∃ blk off, A = some ⟨blk, off, none⟩ ∧ blk < B ∧ ∀ (j : Nat) b, l[j]? = some b → w.cell? ⟨blk, off + j, none⟩ = some (.int .u8 (b.toNat : Int)) := by
  rcases h.at' with ⟨_, h1, _⟩ | h1
  · subst h1; simp at hl
  · exact h1
theorem RdrAt.drop {w w' : World} {rb B n : Nat} {blk off : Nat} {c : Nat} {bad bad' : Bool} {l : Bs} (h : RdrAt w rb B (some ⟨blk, off, none⟩) c bad l) (hn : n ≤ l.length) {off' c' : Nat} (hoc : (n < c ∧ off' = off + n ∧ c' = c - n) ∨ (c = n ∧ c' = 0))
    (hH : Holds w' rb 120 #[.slice (some ⟨blk, off', none⟩) (l.length - n) c', .bool bad']) (hc : Chg w w' (fun k => k = rb)) : RdrAt w' rb B (some ⟨blk, off', none⟩) c' bad' (l.drop n) := by
  have hle := h.le
  have hlt := h.lt
  have hdl : (l.drop n).length = l.length - n := List.length_drop
  refine ⟨by rw [hdl]; exact hH, by rw [hdl]; omega, h.lt, ?_⟩
  rcases h.at' with ⟨h1, _⟩ | ⟨blk2, off2, e, h1, h2⟩
  · cases h1
  injection e with e
  injection e with e1 e2
  subst e1 e2
  refine .inr ⟨blk, off', rfl, h1, fun j b hb => ?_⟩
  rw [List.getElem?_drop] at hb
  have hj := (List.getElem?_eq_some_iff.1 hb).1
  have k5 := h2 (n + j) b hb
  rcases hoc with ⟨_, rfl, _⟩ | ⟨h9, _⟩
  · exact hc.cell (p := ⟨blk, off + n + j, none⟩) (by show ¬ blk = rb; omega) (by rw [Nat.add_assoc]; exact k5)
  · omega
set_option maxRecDepth 100000 in
set_option maxHeartbeats 1000000 in
theorem rnumber_any (w : World) (rb B : Nat) (A : Option Addr) (c : Nat) (bad : Bool) (l : Bs) (h : RdrAt w rb B A c bad l) (h8 : 8 ≤ l.length) (hl : l.length ≤ 100000000) (ans : Int) (bad' : Bool) (hans : ans = if 8388608 < val8 (l.take 8) then 0 else (val8 (l.take 8) : Int)) (hbad : bad' = (bad || decide (8388608 < val8 (l.take 8)))) :
    Calls Tryz.prog 65 #[.pointer (some ⟨rb, 0, none⟩)] w fun e w' => e = .returned (.int .i64 ans) ∧ ∃ A' c', RdrAt w' rb B A' c' bad' (l.drop 8) ∧ Chg w w' (fun k => k = rb) := by
  have H := Lib.hid h
  have HAB := Lib.hid (And.intro hans hbad)
  clear hans hbad
  have p0 := h.h.cell 0
  have p1 := h.h.cell 1
  have f0 := h.h.free 0
  have f1 := h.h.free 1
  simp at p0 p1
  have hcl := h.le
  have hrB := h.lt
  obtain ⟨blk, off, rfl, hne, hc⟩ := h.some' (by omega)
  have HCC9 := Lib.hid hc
  clear h hc
  go_enter Tryz.func65, Tryz.ntmps65
  go_wp2_with fail
  go_loopg [3, 17] 8 (fun q nv iv wr => ∃ (i n : Nat), i + q = 8 ∧ iv = .int .i64 (i : Int) ∧ nv = .int .u64 (n : Int) ∧ n < 256 ^ i ∧ wr = w ∧ Hid (n = val8 (l.take i)))
  case atStart => exact ⟨0, 0, by omega, rfl, rfl, by simp, rfl, Lib.hid rfl⟩
  case round =>
    obtain ⟨i, n, hi, rfl, rfl, hn, rfl, HR⟩ := hrel
    by_cases hlt : i < 8
    · obtain ⟨b, hb⟩ : ∃ b, l[i]? = some b := ⟨_, List.getElem?_eq_getElem (by omega)⟩
      have hc := HCC9.out i b hb
      have hb8 := b.toNat_lt
      have hz : (i : Int) < (l.length : Int) := by omega
      have HB := Lib.hid hb
      clear hb
      go_wp2_with fail
      have hstep := or_step hlt hn hb8
      have hnn : n + b.toNat * 256 ^ i < 256 ^ (i + 1) := by
        have h1 := Nat.add_lt_add_right hn (b.toNat * 256 ^ i)
        have e1 : 256 ^ i + b.toNat * 256 ^ i = (b.toNat + 1) * 256 ^ i := by rw [Nat.add_mul, Nat.one_mul, Nat.add_comm]
        have e2 : 256 ^ (i + 1) = 256 * 256 ^ i := by rw [Nat.pow_succ, Nat.mul_comm]
        have h2 : 256 ^ i + b.toNat * 256 ^ i ≤ 256 ^ (i + 1) := by
          rw [e1, e2]
          exact Nat.mul_le_mul_right _ (by omega)
        exact Nat.lt_of_lt_of_le h1 h2
      have hv : Hid (n + b.toNat * 256 ^ i = val8 (l.take (i + 1))) := Lib.hid (by
        rw [List.take_add_one, HB.out, Option.toList_some, val8_snoc, ← HR.out]
        rw [List.length_take, Nat.min_eq_left (by omega)])
      rw [hstep]
      clear hstep
      go_roundg (gk - 1)
      case measure => omega
      case rel => exact ⟨i + 1, _, by omega, by go_num, rfl, hnn, rfl, hv⟩
    · obtain rfl : i = 8 := by omega
      have hz8 : (8 : Int) ≤ (l.length : Int) := by omega
      have hfr : ∀ S, (wr.setCell ⟨rb, 0, none⟩ S).frozen? ⟨rb, 1, none⟩ = false := fun S => (H.out.h.set 0 S).free 1
      have HAN : Hid (ans = if 8388608 < n then 0 else (n : Int)) := Lib.hid (by rw [HR.out]; exact HAB.out.1)
      have HBN : Hid (bad' = (bad || decide (8388608 < n))) := Lib.hid (by rw [HR.out]; exact HAB.out.2)
      have HCC0 : ∀ S, Chg wr ((wr.setCell ⟨rb, 0, none⟩ S).setCell ⟨rb, 1, none⟩ (.bool true)) (fun k => k = rb) := fun S => (Chg.set _ _ _).trans (Chg.set _ _ _) (fun _ _ h => h)
      by_cases hc8 : c = 8
      · subst hc8
        have HCC := Lib.hid (HCC0 (.slice (some ⟨blk, off, none⟩) 0 0))
        have hf1 := hfr (.slice (some ⟨blk, off, none⟩) 0 0)
        have e08 : l.length - 8 = 0 := by omega
        have E08 := Lib.hid e08
        clear HCC0 e08
        clear hfr
        by_cases hmx : 8388608 < n
        · go_wp2_with fail
          go_ret
          refine ⟨(by first | (rw [HAN.out, if_pos hmx]; done) | (rw [HAN.out, if_pos hmx]; rfl)), some ⟨blk, off, none⟩, 0, H.out.drop h8 (.inr ⟨rfl, rfl⟩) ?_ HCC.out, HCC.out⟩
          · have := (H.out.h.set 0 (.slice (some ⟨blk, off, none⟩) 0 0)).set 1 (.bool true)
            rw [E08.out, HBN.out, decide_eq_true hmx, Bool.or_true]
            simpa using this
        · go_wp2_with fail
          go_ret
          refine ⟨(by first | (rw [HAN.out, if_neg hmx]; done) | (rw [HAN.out, if_neg hmx]; rfl)), some ⟨blk, off, none⟩, 0, H.out.drop h8 (.inr ⟨rfl, rfl⟩) ?_ (Chg.set _ _ _), Chg.set _ _ _⟩
          have := H.out.h.set 0 (.slice (some ⟨blk, off, none⟩) 0 0)
          rw [E08.out, HBN.out, decide_eq_false hmx, Bool.or_false]
          simpa using this
      · have hc9 : 8 < c := by omega
        have HCC := Lib.hid (HCC0 (.slice (some ⟨blk, off + 8, none⟩) (l.length - 8) (c - 8)))
        clear HCC0
        have hf1 := hfr (.slice (some ⟨blk, off + 8, none⟩) (l.length - 8) (c - 8))
        clear hfr
        by_cases hmx : 8388608 < n
        · go_wp2_with fail
          go_ret
          refine ⟨(by first | (rw [HAN.out, if_pos hmx]; done) | (rw [HAN.out, if_pos hmx]; rfl)), some ⟨blk, off + 8, none⟩, c - 8, H.out.drop h8 (.inl ⟨hc9, rfl, rfl⟩) ?_ HCC.out, HCC.out⟩
          · have := (H.out.h.set 0 (.slice (some ⟨blk, off + 8, none⟩) (l.length - 8) (c - 8))).set 1 (.bool true)
            rw [HBN.out, decide_eq_true hmx, Bool.or_true]
            simpa using this
        · go_wp2_with fail
          go_ret
          refine ⟨(by first | (rw [HAN.out, if_neg hmx]; done) | (rw [HAN.out, if_neg hmx]; rfl)), some ⟨blk, off + 8, none⟩, c - 8, H.out.drop h8 (.inl ⟨hc9, rfl, rfl⟩) ?_ (Chg.set _ _ _), Chg.set _ _ _⟩
          have := H.out.h.set 0 (.slice (some ⟨blk, off + 8, none⟩) (l.length - 8) (c - 8))
          rw [HBN.out, decide_eq_false hmx, Bool.or_false]
          simpa using this
end Go.Proofs.YtmldpehkacemfaaGreatDoor
namespace Go.Proofs.YtmldpehkacemfaaGreatDoor
open Go.RowKit Go.Bd
theorem valF_form {w : World} {es : List Fe} (hr : ∀ e ∈ es, w.ownsRow 0 5 1 e.v e.c.length (u8L e.c)) (s : ByteArray) :
    ∃ A c, valF es s = .slice A ((getB (fsOf es) s).getD []).length c ∧ ((getB (fsOf es) s).getD []).length ≤ c := by
  rw [getB_of]
  unfold valF
  cases he : findF es s with
  | none => exact ⟨none, 0, rfl, Nat.le_refl _⟩
  | some e =>
    have hm : e ∈ es := List.mem_of_find?_eq_some he
    rcases (hr e hm).2 with ⟨hv, hn⟩ | ⟨g, cap, cur, hv, _, _, hc, _⟩
    · refine ⟨none, 0, ?_, ?_⟩
      · simp [hv, hn]
      · simp [hn]
    · exact ⟨some ⟨g, 0, none⟩, cap, by simp [hv], by simpa using hc⟩
theorem zero_bytes (w : World) : (zeroValue 69).run Tryz.prog w = .ok (.slice none 0 0) w := by kernel_rfl
theorem str_key : Tryz.prog.underlying 9 = some .string := by kernel_rfl
theorem map_under : Tryz.prog.underlying 51 = some (.map 9 69) := by kernel_rfl
set_option maxRecDepth 100000 in
set_option maxHeartbeats 2000000 in
theorem empty1_any {w : World} {F Ro : Nat → Prop} {db size bm b : Nat} {es : List Fe} {hist : List Raw} {hv : Value} {fs : List Value} {s : ByteArray} {rs : List Raw} (h : DiskAt w F Ro db size es hist bm hv fs rs) (hb : Ro b) (hs : Holds w b 9 #[.string s]) (hn : s.size ≤ 80) (he : es.length < 1000000) (hu : usedB (fsOf es) ≤ 1000000000000) :
    Calls Tryz.prog 69 #[.pointer (some ⟨db, 0, none⟩), .pointer (some ⟨b, 0, none⟩)] w fun e w' => (∃ v, e = .returned v) ∧ Holds w' db 54 #[.int .i64 (size : Int), .int .i64 ((usedB (fsOf es) - ((getB (fsOf es) s).getD []).length : Nat) : Int), .map (some bm), hv] ∧
      FsMap w' Tryz.prog 9 bm (putF es ⟨s, .slice none 0 0, []⟩) ∧ Chg w w' (fun k => k = db ∨ k = bm) := by
  obtain ⟨A, c, hval, hlc⟩ := valF_form h.rows s
  have hle : ((getB (fsOf es) s).getD []).length ≤ usedB (fsOf es) := by
    have := used_del (by rw [h.says]; exact uniq_runR _ : UniqB (fsOf es)) s
    omega
  have hdb : db ≠ b := fun e => h.off b hb (e ▸ h.inDb)
  have hbm : bm ≠ b := fun e => h.off b hb (e ▸ h.inBm)
  have hbd : ¬ db = bm := h.offDb.1
  have HH := h.hold
  have HM := h.map
  have HU := h.uniq
  clear h hb
  generalize ((getB (fsOf es) s).getD []).length = m at hval hlc hle ⊢
  generalize usedB (fsOf es) = u at hle hu HH ⊢
  have p1 : w.cell? ⟨db, 1, none⟩ = some (.int .i64 (u : Int)) := HH.cell 1
  have p2 : w.cell? ⟨db, 2, none⟩ = some (.map (some bm)) := HH.cell 2
  have pf : w.frozen? ⟨db, 1, none⟩ = false := HH.free 1
  have pb : w.cell? ⟨b, 0, none⟩ = some (.string s) := hs.cell 0
  have e1 : IntKind.i64.wrap ((u : Int) - (m : Int)) = ((u - m : Nat) : Int) := by
    rw [← Int.ofNat_sub hle]; exact IntWalk.i64_in _ (by omega)
  have HHH := Lib.hid HH
  have HMM := Lib.hid HM
  have HUU := Lib.hid HU
  have HV := Lib.hid hval
  have HS := Lib.hid hs
  clear HH HM HU hval hs
  go_enter Tryz.func69, Tryz.ntmps69
  go_wp2_with fail
  refine wp_region_held_drew (S := (fun w' => w'.cell? ⟨db, 2, none⟩ = some (.map (some bm)) ∧ w'.frozen? ⟨db, 1, none⟩ = false ∧ w'.cell? ⟨b, 0, none⟩ = some (.string s) ∧ FsMap w' Tryz.prog 9 bm es)) (by kernel_rfl) ?_ (fun hHeld0 => ?_)
  · (try dsimp only)
    first | exact ⟨p2, pf, pb, HMM.out.eq rfl⟩ | exact ⟨cell_off (by decide) _ p2, (World.frozen?_setCell _ _ _ _).trans pf, cell_far hdb _ pb, HMM.out.chg (Chg.set w ⟨db, 1, none⟩ (.int .i64 ((u - m : Nat) : Int))).drew (fun e => hbd e.symm)⟩
  refine wpAnyH_take (i := 0) (oi := ⟨some 3, _, _, _, _, _⟩) (v := ?_) rfl (by kernel_rfl) (by kernel_rfl) (by kernel_rfl) (fun _ _ _ h => h) (Or.inl ⟨by kernel_rfl, ?_⟩) (by assumption) ?_
  rotate_left
  · (intro w hSw; (try dsimp only at hSw); go_simp; (first | done | with_reducible rfl))
  (try simp only [Act.put, List.setIfInBounds_toArray, List.set_cons_zero, List.set_cons_succ])
  refine wpAnyH_take (i := 1) (oi := ⟨some 4, _, _, _, _, _⟩) (v := ?_) rfl (by kernel_rfl) (by kernel_rfl) (by kernel_rfl) (fun _ _ _ h => h) (Or.inl ⟨by kernel_rfl, ?_⟩) (by assumption) ?_
  rotate_left
  · (intro w hSw; (try dsimp only at hSw); go_simp; (first | done | with_reducible rfl))
  (try simp only [Act.put, List.setIfInBounds_toArray, List.set_cons_zero, List.set_cons_succ])
  refine wpAnyH_take (i := 2) (oi := ⟨some 5, _, _, _, _, _⟩) (v := ?_) rfl (by kernel_rfl) (by kernel_rfl) (by kernel_rfl) (fun _ _ _ h => h) (Or.inl ⟨by kernel_rfl, ?_⟩) (by assumption) ?_
  rotate_left
  · (intro w hSw; (try dsimp only at hSw); go_simp; (first | done | with_reducible rfl))
  (try simp only [Act.put, List.setIfInBounds_toArray, List.set_cons_zero, List.set_cons_succ])
  refine wpAnyH_take (i := 4) (oi := ⟨some 7, _, _, _, _, _⟩) (v := ?_) rfl (by kernel_rfl) (by kernel_rfl) (by kernel_rfl) (fun _ _ _ h => h) (Or.inl ⟨by kernel_rfl, ?_⟩) (by assumption) ?_
  rotate_left
  · (intro w hSw; (try dsimp only at hSw); go_simp; (first | done | with_reducible rfl))
  (try simp only [Act.put, List.setIfInBounds_toArray, List.set_cons_zero, List.set_cons_succ])
  refine wpAnyH_take (i := 5) (oi := ⟨some 8, _, _, _, _, _⟩) (v := ?_) rfl (by kernel_rfl) (by kernel_rfl) (by kernel_rfl) (fun _ _ _ h => h) (Or.inl ⟨by kernel_rfl, ?_⟩) (by assumption) ?_
  rotate_left
  · (intro w hSw; (try dsimp only at hSw); go_simp; (first | done | with_reducible rfl))
  (try simp only [Act.put, List.setIfInBounds_toArray, List.set_cons_zero, List.set_cons_succ])
  refine wpAnyH_take (i := 6) (oi := ⟨some 9, _, _, _, _, _⟩) (v := ?_) rfl (by kernel_rfl) (by kernel_rfl) (by kernel_rfl) (fun _ _ _ h => h) (Or.inl ⟨by kernel_rfl, ?_⟩) (by assumption) ?_
  rotate_left
  · (intro w hSw; (try dsimp only at hSw); go_simp; (first | done | with_reducible rfl))
  (try simp only [Act.put, List.setIfInBounds_toArray, List.set_cons_zero, List.set_cons_succ])
  refine wpAnyH_take (i := 7) (oi := ⟨some 10, _, _, _, _, _⟩) (v := ?_) rfl (by kernel_rfl) (by kernel_rfl) (by kernel_rfl) (fun _ _ _ h => h) (Or.inl ⟨by kernel_rfl, ?_⟩) (by assumption) ?_
  rotate_left
  · (intro w hSw; (try dsimp only at hSw); go_simp; (first | done | with_reducible rfl))
  (try simp only [Act.put, List.setIfInBounds_toArray, List.set_cons_zero, List.set_cons_succ])
  refine wpAnyH_take (i := 8) (oi := ⟨some 11, _, _, _, _, _⟩) (v := ?_) rfl (by kernel_rfl) (by kernel_rfl) (by kernel_rfl) (fun _ _ _ h => h) (Or.inl ⟨by kernel_rfl, ?_⟩) (by assumption) ?_
  rotate_left
  · (intro w hSw; (try dsimp only at hSw); go_simp; (first | done | with_reducible rfl))
  (try simp only [Act.put, List.setIfInBounds_toArray, List.set_cons_zero, List.set_cons_succ])
  refine wpAnyH_take (i := 9) (oi := ⟨some 12, _, _, _, _, _⟩) (v := (.slice A m c)) rfl (by kernel_rfl) (by kernel_rfl) (by kernel_rfl) (fun _ _ _ h => h) (Or.inl ⟨by kernel_rfl, ?_⟩) (by assumption) ?_
  · intro w hSw
    have hl := hSw.2.2.2.look (s := s) str_key map_under (zero_bytes w) (by simp only [maxLen] <;> omega)
    rw [HV.out] at hl
    go_simp
  (try simp only [Act.put, List.setIfInBounds_toArray, List.set_cons_zero, List.set_cons_succ])
  refine wpAnyH_take (i := 10) (oi := ⟨some 13, _, _, _, _, _⟩) (v := ?_) rfl (by kernel_rfl) (by kernel_rfl) (by kernel_rfl) (fun _ _ _ h => h) (Or.inl ⟨by kernel_rfl, ?_⟩) (by assumption) ?_
  rotate_left
  · (intro w hSw; (try dsimp only at hSw); go_simp; (first | done | with_reducible rfl))
  (try simp only [Act.put, List.setIfInBounds_toArray, List.set_cons_zero, List.set_cons_succ])
  refine wpAnyH_ready (rs := [3]) (by kernel_rfl) (by simp) ?_
  refine AllReadyH.cons (o := ⟨some 6, _, _, _, _, _⟩) rfl (fun K hK => ?_) AllReadyH.nil
  go_simp
  refine hK.out _ _ ?_ (fun hHeld1 => ?_)
  · (try dsimp only)
    first | exact ⟨p2, pf, pb, HMM.out.eq rfl⟩ | exact ⟨cell_off (by decide) _ p2, (World.frozen?_setCell _ _ _ _).trans pf, cell_far hdb _ pb, HMM.out.chg (Chg.set w ⟨db, 1, none⟩ (.int .i64 ((u - m : Nat) : Int))).drew (fun e => hbd e.symm)⟩
  clear hK K hHeld0
  (try simp only [Act.put, List.setIfInBounds_toArray, List.set_cons_zero, List.set_cons_succ])
  refine wpAnyH_take (i := 11) (oi := ⟨some 14, _, _, _, _, _⟩) (v := ?_) rfl (by kernel_rfl) (by kernel_rfl) (by kernel_rfl) (fun _ _ _ h => h) (Or.inl ⟨by kernel_rfl, ?_⟩) (by assumption) ?_
  rotate_left
  · (intro w hSw; (try dsimp only at hSw); go_simp; (first | done | with_reducible rfl))
  (try simp only [Act.put, List.setIfInBounds_toArray, List.set_cons_zero, List.set_cons_succ])
  refine wpAnyH_take (i := 12) (oi := ⟨some 15, _, _, _, _, _⟩) (v := ?_) rfl (by kernel_rfl) (by kernel_rfl) (by kernel_rfl) (fun _ _ _ h => h) (Or.inl ⟨by kernel_rfl, ?_⟩) (by assumption) ?_
  rotate_left
  · (intro w hSw; (try dsimp only at hSw); go_simp; (first | done | with_reducible rfl))
  (try simp only [Act.put, List.setIfInBounds_toArray, List.set_cons_zero, List.set_cons_succ])
  refine wpAnyH_take (i := 13) (oi := ⟨some 16, _, _, _, _, _⟩) (v := ?_) rfl (by kernel_rfl) (by kernel_rfl) (by kernel_rfl) (fun _ _ _ h => h) (Or.inl ⟨by kernel_rfl, ?_⟩) (by assumption) ?_
  rotate_left
  · (intro w hSw; (try dsimp only at hSw); go_simp; (first | done | with_reducible rfl))
  (try simp only [Act.put, List.setIfInBounds_toArray, List.set_cons_zero, List.set_cons_succ])
  refine wpAnyH_ready (rs := [14]) (by kernel_rfl) (by simp) ?_
  refine AllReadyH.cons rfl (fun K hK => ?_) AllReadyH.nil
  go_simp
  refine hK.out _ _ ?_ (fun hHeld2 => ?_)
  · (try dsimp only)
    first | exact ⟨p2, pf, pb, HMM.out.eq rfl⟩ | exact ⟨cell_off (by decide) _ p2, (World.frozen?_setCell _ _ _ _).trans pf, cell_far hdb _ pb, HMM.out.chg (Chg.set w ⟨db, 1, none⟩ (.int .i64 ((u - m : Nat) : Int))).drew (fun e => hbd e.symm)⟩
  clear hK K hHeld1
  (try simp only [Act.put, List.setIfInBounds_toArray, List.set_cons_zero, List.set_cons_succ])
  refine wpAnyH_done (by kernel_rfl) ?_ _
  obtain ⟨q2, qf, qb, hm1⟩ := hHeld2
  have HH1 := Lib.hid (HHH.out.set 1 (.int .i64 ((u - m : Nat) : Int)))
  have HC1 := Lib.hid ((Chg.set w ⟨db, 1, none⟩ (.int .i64 ((u - m : Nat) : Int))).drew)
  have HH2 : Hid (Holds (w.setCell ⟨db, 1, none⟩ (.int .i64 ((u - m : Nat) : Int))).drew db 54 #[.int .i64 (size : Int), .int .i64 ((u - m : Nat) : Int), .map (some bm), hv]) := HH1.out
  generalize (w.setCell ⟨db, 1, none⟩ (.int .i64 ((u - m : Nat) : Int))).drew = w1 at q2 qf qb hm1 HC1 HH2 ⊢
  clear HH1
  have HM1 := Lib.hid hm1
  clear hm1 qf
  go_wp2_with fail
  refine wp_region_held_drew (S := (fun w' => w'.cell? ⟨db, 2, none⟩ = some (.map (some bm)) ∧ w'.cell? ⟨b, 0, none⟩ = some (.string s))) (by kernel_rfl) ?_ (fun hHeld0 => ?_)
  · (try dsimp only)
    first | exact ⟨q2, qb⟩ | exact ⟨hc5.cell (p := ⟨db, 2, none⟩) hbd q2, hc5.cell (p := ⟨b, 0, none⟩) (fun e => hbm e.symm) qb⟩
  refine wpAnyH_take (i := 0) (oi := ⟨some 17, _, _, _, _, _⟩) (v := ?_) rfl (by kernel_rfl) (by kernel_rfl) (by kernel_rfl) (fun _ _ _ h => h) (Or.inl ⟨by kernel_rfl, ?_⟩) (by assumption) ?_
  rotate_left
  · (intro w hSw; (try dsimp only at hSw); go_simp; (first | done | with_reducible rfl))
  (try simp only [Act.put, List.setIfInBounds_toArray, List.set_cons_zero, List.set_cons_succ])
  refine wpAnyH_take (i := 1) (oi := ⟨some 18, _, _, _, _, _⟩) (v := ?_) rfl (by kernel_rfl) (by kernel_rfl) (by kernel_rfl) (fun _ _ _ h => h) (Or.inl ⟨by kernel_rfl, ?_⟩) (by assumption) ?_
  rotate_left
  · (intro w hSw; (try dsimp only at hSw); go_simp; (first | done | with_reducible rfl))
  (try simp only [Act.put, List.setIfInBounds_toArray, List.set_cons_zero, List.set_cons_succ])
  refine wpAnyH_take (i := 2) (oi := ⟨some 19, _, _, _, _, _⟩) (v := ?_) rfl (by kernel_rfl) (by kernel_rfl) (by kernel_rfl) (fun _ _ _ h => h) (Or.inl ⟨by kernel_rfl, ?_⟩) (by assumption) ?_
  rotate_left
  · (intro w hSw; (try dsimp only at hSw); go_simp; (first | done | with_reducible rfl))
  (try simp only [Act.put, List.setIfInBounds_toArray, List.set_cons_zero, List.set_cons_succ])
  refine wpAnyH_take (i := 3) (oi := ⟨some 20, _, _, _, _, _⟩) (v := ?_) rfl (by kernel_rfl) (by kernel_rfl) (by kernel_rfl) (fun _ _ _ h => h) (Or.inl ⟨by kernel_rfl, ?_⟩) (by assumption) ?_
  rotate_left
  · (intro w hSw; (try dsimp only at hSw); go_simp; (first | done | with_reducible rfl))
  (try simp only [Act.put, List.setIfInBounds_toArray, List.set_cons_zero, List.set_cons_succ])
  refine wpAnyH_take (i := 4) (oi := ⟨some 21, _, _, _, _, _⟩) (v := ?_) rfl (by kernel_rfl) (by kernel_rfl) (by kernel_rfl) (fun _ _ _ h => h) (Or.inl ⟨by kernel_rfl, ?_⟩) (by assumption) ?_
  rotate_left
  · (intro w hSw; (try dsimp only at hSw); go_simp; (first | done | with_reducible rfl))
  (try simp only [Act.put, List.setIfInBounds_toArray, List.set_cons_zero, List.set_cons_succ])
  refine wpAnyH_ready (rs := [5]) (by kernel_rfl) (by simp) ?_
  refine AllReadyH.cons rfl (fun K hK => ?_) AllReadyH.nil
  obtain ⟨w5, hr5, hm5, hc5, hz5⟩ := (HM1.out.eq (w' := w1.drew) rfl).store HUU.out str_key map_under (by simp only [maxLen]; omega) ⟨s, .slice none 0 0, []⟩ (by simp only [maxLen]; omega)
  go_simp
  refine hK.out _ _ ?_ (fun hHeld1 => ?_)
  · (try dsimp only)
    first | exact ⟨q2, qb⟩ | exact ⟨hc5.cell (p := ⟨db, 2, none⟩) hbd q2, hc5.cell (p := ⟨b, 0, none⟩) (fun e => hbm e.symm) qb⟩
  clear hK K hHeld0
  (try simp only [Act.put, List.setIfInBounds_toArray, List.set_cons_zero, List.set_cons_succ])
  refine wpAnyH_done (by kernel_rfl) ?_ _
  have HF5 := Lib.hid (And.intro hm5 hc5)
  clear hm5 hc5 hr5 hz5
  go_wp2_with fail
  go_end0
  exact ⟨⟨_, rfl⟩, HF5.out.2.holds hbd HH2.out, HF5.out.1, (HC1.out.mono (fun k _ h => Or.inl h)).drew.trans HF5.out.2 (fun k _ h => Or.inr h)⟩
set_option maxRecDepth 100000 in
set_option maxHeartbeats 2000000 in
theorem gone1_any {w : World} {F Ro : Nat → Prop} {db size bm b : Nat} {es : List Fe} {hist : List Raw} {hv : Value} {fs : List Value} {s : ByteArray} {rs : List Raw} (h : DiskAt w F Ro db size es hist bm hv fs rs) (hb : Ro b) (hs : Holds w b 9 #[.string s]) (hn : s.size ≤ 80) (he : es.length < 1000000) (hu : usedB (fsOf es) ≤ 1000000000000) :
    Calls Tryz.prog 78 #[.pointer (some ⟨db, 0, none⟩), .pointer (some ⟨b, 0, none⟩)] w fun e w' => (∃ v, e = .returned v) ∧ Holds w' db 54 #[.int .i64 (size : Int), .int .i64 ((usedB (fsOf es) - ((getB (fsOf es) s).getD []).length : Nat) : Int), .map (some bm), hv] ∧
      FsMap w' Tryz.prog 9 bm (delF es s) ∧ Chg w w' (fun k => k = db ∨ k = bm) := by
  obtain ⟨A, c, hval, hlc⟩ := valF_form h.rows s
  have hle : ((getB (fsOf es) s).getD []).length ≤ usedB (fsOf es) := by
    have := used_del (by rw [h.says]; exact uniq_runR _ : UniqB (fsOf es)) s
    omega
  have hdb : db ≠ b := fun e => h.off b hb (e ▸ h.inDb)
  have hbm : bm ≠ b := fun e => h.off b hb (e ▸ h.inBm)
  have hbd : ¬ db = bm := h.offDb.1
  have HH := h.hold
  have HM := h.map
  have HU := h.uniq
  clear h hb
  generalize ((getB (fsOf es) s).getD []).length = m at hval hlc hle ⊢
  generalize usedB (fsOf es) = u at hle hu HH ⊢
  have p1 : w.cell? ⟨db, 1, none⟩ = some (.int .i64 (u : Int)) := HH.cell 1
  have p2 : w.cell? ⟨db, 2, none⟩ = some (.map (some bm)) := HH.cell 2
  have pf : w.frozen? ⟨db, 1, none⟩ = false := HH.free 1
  have pb : w.cell? ⟨b, 0, none⟩ = some (.string s) := hs.cell 0
  have e1 : IntKind.i64.wrap ((u : Int) - (m : Int)) = ((u - m : Nat) : Int) := by
    rw [← Int.ofNat_sub hle]; exact IntWalk.i64_in _ (by omega)
  have HHH := Lib.hid HH
  have HMM := Lib.hid HM
  have HUU := Lib.hid HU
  have HV := Lib.hid hval
  have HS := Lib.hid hs
  clear HH HM HU hval hs
  go_enter Tryz.func78, Tryz.ntmps78
  go_wp2_with fail
  refine wp_region_held_drew (S := (fun w' => w'.cell? ⟨db, 2, none⟩ = some (.map (some bm)) ∧ w'.frozen? ⟨db, 1, none⟩ = false ∧ w'.cell? ⟨b, 0, none⟩ = some (.string s) ∧ FsMap w' Tryz.prog 9 bm es)) (by kernel_rfl) ?_ (fun hHeld0 => ?_)
  · (try dsimp only)
    first | exact ⟨p2, pf, pb, HMM.out.eq rfl⟩ | exact ⟨cell_off (by decide) _ p2, (World.frozen?_setCell _ _ _ _).trans pf, cell_far hdb _ pb, HMM.out.chg (Chg.set w ⟨db, 1, none⟩ (.int .i64 ((u - m : Nat) : Int))).drew (fun e => hbd e.symm)⟩
  refine wpAnyH_take (i := 0) (oi := ⟨some 3, _, _, _, _, _⟩) (v := ?_) rfl (by kernel_rfl) (by kernel_rfl) (by kernel_rfl) (fun _ _ _ h => h) (Or.inl ⟨by kernel_rfl, ?_⟩) (by assumption) ?_
  rotate_left
  · (intro w hSw; (try dsimp only at hSw); go_simp; (first | done | with_reducible rfl))
  (try simp only [Act.put, List.setIfInBounds_toArray, List.set_cons_zero, List.set_cons_succ])
  refine wpAnyH_take (i := 1) (oi := ⟨some 4, _, _, _, _, _⟩) (v := ?_) rfl (by kernel_rfl) (by kernel_rfl) (by kernel_rfl) (fun _ _ _ h => h) (Or.inl ⟨by kernel_rfl, ?_⟩) (by assumption) ?_
  rotate_left
  · (intro w hSw; (try dsimp only at hSw); go_simp; (first | done | with_reducible rfl))
  (try simp only [Act.put, List.setIfInBounds_toArray, List.set_cons_zero, List.set_cons_succ])
  refine wpAnyH_take (i := 2) (oi := ⟨some 5, _, _, _, _, _⟩) (v := ?_) rfl (by kernel_rfl) (by kernel_rfl) (by kernel_rfl) (fun _ _ _ h => h) (Or.inl ⟨by kernel_rfl, ?_⟩) (by assumption) ?_
  rotate_left
  · (intro w hSw; (try dsimp only at hSw); go_simp; (first | done | with_reducible rfl))
  (try simp only [Act.put, List.setIfInBounds_toArray, List.set_cons_zero, List.set_cons_succ])
  refine wpAnyH_take (i := 4) (oi := ⟨some 7, _, _, _, _, _⟩) (v := ?_) rfl (by kernel_rfl) (by kernel_rfl) (by kernel_rfl) (fun _ _ _ h => h) (Or.inl ⟨by kernel_rfl, ?_⟩) (by assumption) ?_
  rotate_left
  · (intro w hSw; (try dsimp only at hSw); go_simp; (first | done | with_reducible rfl))
  (try simp only [Act.put, List.setIfInBounds_toArray, List.set_cons_zero, List.set_cons_succ])
  refine wpAnyH_take (i := 5) (oi := ⟨some 8, _, _, _, _, _⟩) (v := ?_) rfl (by kernel_rfl) (by kernel_rfl) (by kernel_rfl) (fun _ _ _ h => h) (Or.inl ⟨by kernel_rfl, ?_⟩) (by assumption) ?_
  rotate_left
  · (intro w hSw; (try dsimp only at hSw); go_simp; (first | done | with_reducible rfl))
  (try simp only [Act.put, List.setIfInBounds_toArray, List.set_cons_zero, List.set_cons_succ])
  refine wpAnyH_take (i := 6) (oi := ⟨some 9, _, _, _, _, _⟩) (v := ?_) rfl (by kernel_rfl) (by kernel_rfl) (by kernel_rfl) (fun _ _ _ h => h) (Or.inl ⟨by kernel_rfl, ?_⟩) (by assumption) ?_
  rotate_left
  · (intro w hSw; (try dsimp only at hSw); go_simp; (first | done | with_reducible rfl))
  (try simp only [Act.put, List.setIfInBounds_toArray, List.set_cons_zero, List.set_cons_succ])
  refine wpAnyH_take (i := 7) (oi := ⟨some 10, _, _, _, _, _⟩) (v := ?_) rfl (by kernel_rfl) (by kernel_rfl) (by kernel_rfl) (fun _ _ _ h => h) (Or.inl ⟨by kernel_rfl, ?_⟩) (by assumption) ?_
  rotate_left
  · (intro w hSw; (try dsimp only at hSw); go_simp; (first | done | with_reducible rfl))
  (try simp only [Act.put, List.setIfInBounds_toArray, List.set_cons_zero, List.set_cons_succ])
  refine wpAnyH_take (i := 8) (oi := ⟨some 11, _, _, _, _, _⟩) (v := ?_) rfl (by kernel_rfl) (by kernel_rfl) (by kernel_rfl) (fun _ _ _ h => h) (Or.inl ⟨by kernel_rfl, ?_⟩) (by assumption) ?_
  rotate_left
  · (intro w hSw; (try dsimp only at hSw); go_simp; (first | done | with_reducible rfl))
  (try simp only [Act.put, List.setIfInBounds_toArray, List.set_cons_zero, List.set_cons_succ])
  refine wpAnyH_take (i := 9) (oi := ⟨some 12, _, _, _, _, _⟩) (v := (.slice A m c)) rfl (by kernel_rfl) (by kernel_rfl) (by kernel_rfl) (fun _ _ _ h => h) (Or.inl ⟨by kernel_rfl, ?_⟩) (by assumption) ?_
  · intro w hSw
    have hl := hSw.2.2.2.look (s := s) str_key map_under (zero_bytes w) (by simp only [maxLen] <;> omega)
    rw [HV.out] at hl
    go_simp
  (try simp only [Act.put, List.setIfInBounds_toArray, List.set_cons_zero, List.set_cons_succ])
  refine wpAnyH_take (i := 10) (oi := ⟨some 13, _, _, _, _, _⟩) (v := ?_) rfl (by kernel_rfl) (by kernel_rfl) (by kernel_rfl) (fun _ _ _ h => h) (Or.inl ⟨by kernel_rfl, ?_⟩) (by assumption) ?_
  rotate_left
  · (intro w hSw; (try dsimp only at hSw); go_simp; (first | done | with_reducible rfl))
  (try simp only [Act.put, List.setIfInBounds_toArray, List.set_cons_zero, List.set_cons_succ])
  refine wpAnyH_ready (rs := [3]) (by kernel_rfl) (by simp) ?_
  refine AllReadyH.cons (o := ⟨some 6, _, _, _, _, _⟩) rfl (fun K hK => ?_) AllReadyH.nil
  go_simp
  refine hK.out _ _ ?_ (fun hHeld1 => ?_)
  · (try dsimp only)
    first | exact ⟨p2, pf, pb, HMM.out.eq rfl⟩ | exact ⟨cell_off (by decide) _ p2, (World.frozen?_setCell _ _ _ _).trans pf, cell_far hdb _ pb, HMM.out.chg (Chg.set w ⟨db, 1, none⟩ (.int .i64 ((u - m : Nat) : Int))).drew (fun e => hbd e.symm)⟩
  clear hK K hHeld0
  (try simp only [Act.put, List.setIfInBounds_toArray, List.set_cons_zero, List.set_cons_succ])
  refine wpAnyH_take (i := 11) (oi := ⟨some 14, _, _, _, _, _⟩) (v := ?_) rfl (by kernel_rfl) (by kernel_rfl) (by kernel_rfl) (fun _ _ _ h => h) (Or.inl ⟨by kernel_rfl, ?_⟩) (by assumption) ?_
  rotate_left
  · (intro w hSw; (try dsimp only at hSw); go_simp; (first | done | with_reducible rfl))
  (try simp only [Act.put, List.setIfInBounds_toArray, List.set_cons_zero, List.set_cons_succ])
  refine wpAnyH_take (i := 12) (oi := ⟨some 15, _, _, _, _, _⟩) (v := ?_) rfl (by kernel_rfl) (by kernel_rfl) (by kernel_rfl) (fun _ _ _ h => h) (Or.inl ⟨by kernel_rfl, ?_⟩) (by assumption) ?_
  rotate_left
  · (intro w hSw; (try dsimp only at hSw); go_simp; (first | done | with_reducible rfl))
  (try simp only [Act.put, List.setIfInBounds_toArray, List.set_cons_zero, List.set_cons_succ])
  refine wpAnyH_take (i := 13) (oi := ⟨some 16, _, _, _, _, _⟩) (v := ?_) rfl (by kernel_rfl) (by kernel_rfl) (by kernel_rfl) (fun _ _ _ h => h) (Or.inl ⟨by kernel_rfl, ?_⟩) (by assumption) ?_
  rotate_left
  · (intro w hSw; (try dsimp only at hSw); go_simp; (first | done | with_reducible rfl))
  (try simp only [Act.put, List.setIfInBounds_toArray, List.set_cons_zero, List.set_cons_succ])
  refine wpAnyH_ready (rs := [14]) (by kernel_rfl) (by simp) ?_
  refine AllReadyH.cons rfl (fun K hK => ?_) AllReadyH.nil
  go_simp
  refine hK.out _ _ ?_ (fun hHeld2 => ?_)
  · (try dsimp only)
    first | exact ⟨p2, pf, pb, HMM.out.eq rfl⟩ | exact ⟨cell_off (by decide) _ p2, (World.frozen?_setCell _ _ _ _).trans pf, cell_far hdb _ pb, HMM.out.chg (Chg.set w ⟨db, 1, none⟩ (.int .i64 ((u - m : Nat) : Int))).drew (fun e => hbd e.symm)⟩
  clear hK K hHeld1
  (try simp only [Act.put, List.setIfInBounds_toArray, List.set_cons_zero, List.set_cons_succ])
  refine wpAnyH_done (by kernel_rfl) ?_ _
  obtain ⟨q2, qf, qb, hm1⟩ := hHeld2
  have HH1 := Lib.hid (HHH.out.set 1 (.int .i64 ((u - m : Nat) : Int)))
  have HC1 := Lib.hid ((Chg.set w ⟨db, 1, none⟩ (.int .i64 ((u - m : Nat) : Int))).drew)
  have HH2 : Hid (Holds (w.setCell ⟨db, 1, none⟩ (.int .i64 ((u - m : Nat) : Int))).drew db 54 #[.int .i64 (size : Int), .int .i64 ((u - m : Nat) : Int), .map (some bm), hv]) := HH1.out
  generalize (w.setCell ⟨db, 1, none⟩ (.int .i64 ((u - m : Nat) : Int))).drew = w1 at q2 qf qb hm1 HC1 HH2 ⊢
  clear HH1
  have HM1 := Lib.hid hm1
  clear hm1 qf
  go_wp2_with fail
  refine wp_region_held_drew (S := (fun w' => w'.cell? ⟨db, 2, none⟩ = some (.map (some bm)) ∧ w'.cell? ⟨b, 0, none⟩ = some (.string s))) (by kernel_rfl) ?_ (fun hHeld0 => ?_)
  · (try dsimp only)
    first | exact ⟨q2, qb⟩ | exact ⟨hc5.cell (p := ⟨db, 2, none⟩) hbd q2, hc5.cell (p := ⟨b, 0, none⟩) (fun e => hbm e.symm) qb⟩
  refine wpAnyH_take (i := 0) (oi := ⟨some 17, _, _, _, _, _⟩) (v := ?_) rfl (by kernel_rfl) (by kernel_rfl) (by kernel_rfl) (fun _ _ _ h => h) (Or.inl ⟨by kernel_rfl, ?_⟩) (by assumption) ?_
  rotate_left
  · (intro w hSw; (try dsimp only at hSw); go_simp; (first | done | with_reducible rfl))
  (try simp only [Act.put, List.setIfInBounds_toArray, List.set_cons_zero, List.set_cons_succ])
  refine wpAnyH_take (i := 1) (oi := ⟨some 18, _, _, _, _, _⟩) (v := ?_) rfl (by kernel_rfl) (by kernel_rfl) (by kernel_rfl) (fun _ _ _ h => h) (Or.inl ⟨by kernel_rfl, ?_⟩) (by assumption) ?_
  rotate_left
  · (intro w hSw; (try dsimp only at hSw); go_simp; (first | done | with_reducible rfl))
  (try simp only [Act.put, List.setIfInBounds_toArray, List.set_cons_zero, List.set_cons_succ])
  refine wpAnyH_take (i := 2) (oi := ⟨some 19, _, _, _, _, _⟩) (v := ?_) rfl (by kernel_rfl) (by kernel_rfl) (by kernel_rfl) (fun _ _ _ h => h) (Or.inl ⟨by kernel_rfl, ?_⟩) (by assumption) ?_
  rotate_left
  · (intro w hSw; (try dsimp only at hSw); go_simp; (first | done | with_reducible rfl))
  (try simp only [Act.put, List.setIfInBounds_toArray, List.set_cons_zero, List.set_cons_succ])
  refine wpAnyH_take (i := 3) (oi := ⟨some 20, _, _, _, _, _⟩) (v := ?_) rfl (by kernel_rfl) (by kernel_rfl) (by kernel_rfl) (fun _ _ _ h => h) (Or.inl ⟨by kernel_rfl, ?_⟩) (by assumption) ?_
  rotate_left
  · (intro w hSw; (try dsimp only at hSw); go_simp; (first | done | with_reducible rfl))
  (try simp only [Act.put, List.setIfInBounds_toArray, List.set_cons_zero, List.set_cons_succ])
  refine wpAnyH_take (i := 4) (oi := ⟨some 21, _, _, _, _, _⟩) (v := ?_) rfl (by kernel_rfl) (by kernel_rfl) (by kernel_rfl) (fun _ _ _ h => h) (Or.inl ⟨by kernel_rfl, ?_⟩) (by assumption) ?_
  rotate_left
  · (intro w hSw; (try dsimp only at hSw); go_simp; (first | done | with_reducible rfl))
  (try simp only [Act.put, List.setIfInBounds_toArray, List.set_cons_zero, List.set_cons_succ])
  refine wpAnyH_ready (rs := [5]) (by kernel_rfl) (by simp) ?_
  refine AllReadyH.cons rfl (fun K hK => ?_) AllReadyH.nil
  obtain ⟨w5, hr5, hm5, hc5⟩ := (HM1.out.eq (w' := w1.drew) rfl).drop HUU.out str_key map_under s (by simp only [maxLen]; omega) 0
  go_simp
  refine hK.out _ _ ?_ (fun hHeld1 => ?_)
  · (try dsimp only)
    first | exact ⟨q2, qb⟩ | exact ⟨hc5.cell (p := ⟨db, 2, none⟩) hbd q2, hc5.cell (p := ⟨b, 0, none⟩) (fun e => hbm e.symm) qb⟩
  clear hK K hHeld0
  (try simp only [Act.put, List.setIfInBounds_toArray, List.set_cons_zero, List.set_cons_succ])
  refine wpAnyH_done (by kernel_rfl) ?_ _
  have HF5 := Lib.hid (And.intro hm5 hc5)
  clear hm5 hc5 hr5
  go_wp2_with fail
  go_end0
  exact ⟨⟨_, rfl⟩, HF5.out.2.holds hbd HH2.out, HF5.out.1, (HC1.out.mono (fun k _ h => Or.inl h)).drew.trans HF5.out.2 (fun k _ h => Or.inr h)⟩
theorem valF_row {w : World} {es : List Fe} (hr : ∀ e ∈ es, w.ownsRow 0 5 1 e.v e.c.length (u8L e.c)) (s : ByteArray) :
    w.ownsRow 0 5 1 (valF es s) ((getB (fsOf es) s).getD []).length (u8L ((getB (fsOf es) s).getD [])) := by
  rw [getB_of]
  unfold valF
  cases he : findF es s with
  | none => exact World.ownsRow_nil _ _ _ _
  | some e => exact hr e (List.mem_of_find?_eq_some he)
theorem valF_off {es : List Fe} {Q : Nat → Prop} (h : ∀ e ∈ es, ∀ k, e.v.ownBlock = some k → Q k) (s : ByteArray) : ∀ k, (valF es s).ownBlock = some k → Q k := by
  unfold valF
  cases he : findF es s with
  | none => exact fun k hk => by cases hk
  | some e => exact h e (List.mem_of_find?_eq_some he)
theorem add_addr (g off j : Nat) : (⟨g, off, none⟩ : Addr).add j = ⟨g, off + j, none⟩ := by
  unfold Addr.add
  split <;> simp_all
theorem info_u8 : (Tryz.prog.info? 5).map (fun i => (i.zero, i.size, i.bytes)) = some (some (.int .u8 0), 1, 1) := by kernel_rfl
theorem under_bytes : Tryz.prog.underlying 69 = some (.slice 5) := by kernel_rfl
set_option maxRecDepth 100000 in
set_option maxHeartbeats 2000000 in
theorem behind1_any {w : World} {F Ro : Nat → Prop} {db size bm bb bn blk off cap : Nat} {es : List Fe} {hist : List Raw} {hv : Value} {fs : List Value} {s : ByteArray} {q : Bs} {rs : List Raw} (h : DiskAt w F Ro db size es hist bm hv fs rs) (hbb : Ro bb) (hbn : Ro bn) (hbk : Ro blk) (hq : Holds w bb 69 #[.slice (some ⟨blk, off, none⟩) q.length cap]) (hs : Holds w bn 9 #[.string s]) (hn : s.size ≤ 80) (hq1 : 0 < q.length) (hq2 : q.length ≤ 512)
    (hqc : ∀ (j : Nat) u, (u8L q)[j]? = some u → w.cell? ⟨blk, off + j, none⟩ = some u) (he : es.length < 1000000) (hu : usedB (fsOf es) ≤ 1000000000000) :
    Calls Tryz.prog 71 #[.pointer (some ⟨db, 0, none⟩), .pointer (some ⟨bb, 0, none⟩), .pointer (some ⟨bn, 0, none⟩)] w fun e w' => (∃ v, e = .returned v) ∧ ∃ v', Holds w' db 54 #[.int .i64 (size : Int), .int .i64 ((usedB (fsOf es) + q.length : Nat) : Int), .map (some bm), hv] ∧
      FsMap w' Tryz.prog 9 bm (putF es ⟨s, v', (getB (fsOf es) s).getD [] ++ q⟩) ∧ w'.ownsRow 0 5 1 v' ((getB (fsOf es) s).getD [] ++ q).length (u8L ((getB (fsOf es) s).getD [] ++ q)) ∧
      (∀ k, v'.ownBlock = some k → ((valF es s).ownBlock = some k ∨ w.heap.size ≤ k) ∧ k < w'.heap.size) ∧ Chg w w' (fun k => k = db ∨ k = bm ∨ (valF es s).ownBlock = some k) := by
  obtain ⟨A, c, hval, hlc⟩ := valF_form h.rows s
  have hrow := valF_row h.rows s
  have hle : ((getB (fsOf es) s).getD []).length ≤ usedB (fsOf es) := by
    have := used_del (by rw [h.says]; exact uniq_runR _ : UniqB (fsOf es)) s
    omega
  have hoff := valF_off (Q := fun k => ¬ k = db ∧ ¬ k = bm) (fun e he k hk => ⟨(h.offDb.2.2 e he k hk).1, (h.offDb.2.2 e he k hk).2.1⟩) s
  have hinF := valF_off (Q := F) h.inEs s
  have d1 : db ≠ bb := fun e => h.off bb hbb (e ▸ h.inDb)
  have d2 : db ≠ bn := fun e => h.off bn hbn (e ▸ h.inDb)
  have d3 : ¬ blk = db := fun e => h.off blk hbk (e ▸ h.inDb)
  have m1 : ¬ bb = bm := fun e => h.off bb hbb (e ▸ h.inBm)
  have m2 : ¬ bn = bm := fun e => h.off bn hbn (e ▸ h.inBm)
  have v1 : ¬ some bb = (valF es s).ownBlock := fun e => h.off bb hbb (hinF _ e.symm)
  have v2 : ¬ some bn = (valF es s).ownBlock := fun e => h.off bn hbn (hinF _ e.symm)
  have v3 : ¬ some db = (valF es s).ownBlock := fun e => (hoff _ e.symm).1 rfl
  have v4 : ¬ some bm = (valF es s).ownBlock := fun e => (hoff _ e.symm).2 rfl
  have hbd : ¬ db = bm := h.offDb.1
  have HH := h.hold
  have HM := h.map
  have HU := h.uniq
  clear h hbb hbn hbk hinF
  generalize (getB (fsOf es) s).getD [] = o at hval hlc hle hrow ⊢
  generalize usedB (fsOf es) = u at hle hu HH ⊢
  have p1 : w.cell? ⟨db, 1, none⟩ = some (.int .i64 (u : Int)) := HH.cell 1
  have p2 : w.cell? ⟨db, 2, none⟩ = some (.map (some bm)) := HH.cell 2
  have pf : w.frozen? ⟨db, 1, none⟩ = false := HH.free 1
  have pb : w.cell? ⟨bb, 0, none⟩ = some (.slice (some ⟨blk, off, none⟩) q.length cap) := hq.cell 0
  have pn : w.cell? ⟨bn, 0, none⟩ = some (.string s) := hs.cell 0
  have e1 : IntKind.i64.wrap ((u : Int) + (q.length : Int)) = (u : Int) + (q.length : Int) := IntWalk.i64_in _ (by omega)
  have HHH := Lib.hid HH
  have HMM := Lib.hid HM
  have HUU := Lib.hid HU
  have HR := Lib.hid hrow
  have HO := Lib.hid hoff
  have HQ := Lib.hid hqc
  generalize hvv : valF es s = vv at hval HR HO v1 v2 v3 v4 ⊢
  have HV := Lib.hid hvv
  have HE := Lib.hid hval
  clear HH HM HU hval hs hq hrow hoff hqc hvv
  go_enter Tryz.func71, Tryz.ntmps71
  go_wp2_with fail
  refine wp_region_held_drew (S := (fun w' => w'.frozen? ⟨db, 1, none⟩ = false ∧ w'.cell? ⟨bb, 0, none⟩ = some (.slice (some ⟨blk, off, none⟩) q.length cap))) (by kernel_rfl) ?_ (fun hHeld0 => ?_)
  · (try dsimp only)
    first | exact ⟨pf, pb⟩ | exact ⟨(World.frozen?_setCell _ _ _ _).trans pf, cell_far d1 _ pb⟩
  refine wpAnyH_take (i := 0) (oi := ⟨some 4, _, _, _, _, _⟩) (v := ?_) rfl (by kernel_rfl) (by kernel_rfl) (by kernel_rfl) (fun _ _ _ h => h) (Or.inl ⟨by kernel_rfl, ?_⟩) (by assumption) ?_
  rotate_left
  · (intro w hSw; (try dsimp only at hSw); go_simp; (first | done | with_reducible rfl))
  (try simp only [Act.put, List.setIfInBounds_toArray, List.set_cons_zero, List.set_cons_succ])
  refine wpAnyH_take (i := 1) (oi := ⟨some 5, _, _, _, _, _⟩) (v := ?_) rfl (by kernel_rfl) (by kernel_rfl) (by kernel_rfl) (fun _ _ _ h => h) (Or.inl ⟨by kernel_rfl, ?_⟩) (by assumption) ?_
  rotate_left
  · (intro w hSw; (try dsimp only at hSw); go_simp; (first | done | with_reducible rfl))
  (try simp only [Act.put, List.setIfInBounds_toArray, List.set_cons_zero, List.set_cons_succ])
  refine wpAnyH_take (i := 2) (oi := ⟨some 6, _, _, _, _, _⟩) (v := ?_) rfl (by kernel_rfl) (by kernel_rfl) (by kernel_rfl) (fun _ _ _ h => h) (Or.inl ⟨by kernel_rfl, ?_⟩) (by assumption) ?_
  rotate_left
  · (intro w hSw; (try dsimp only at hSw); go_simp; (first | done | with_reducible rfl))
  (try simp only [Act.put, List.setIfInBounds_toArray, List.set_cons_zero, List.set_cons_succ])
  refine wpAnyH_take (i := 4) (oi := ⟨some 8, _, _, _, _, _⟩) (v := ?_) rfl (by kernel_rfl) (by kernel_rfl) (by kernel_rfl) (fun _ _ _ h => h) (Or.inl ⟨by kernel_rfl, ?_⟩) (by assumption) ?_
  rotate_left
  · (intro w hSw; (try dsimp only at hSw); go_simp; (first | done | with_reducible rfl))
  (try simp only [Act.put, List.setIfInBounds_toArray, List.set_cons_zero, List.set_cons_succ])
  refine wpAnyH_take (i := 5) (oi := ⟨some 9, _, _, _, _, _⟩) (v := ?_) rfl (by kernel_rfl) (by kernel_rfl) (by kernel_rfl) (fun _ _ _ h => h) (Or.inl ⟨by kernel_rfl, ?_⟩) (by assumption) ?_
  rotate_left
  · (intro w hSw; (try dsimp only at hSw); go_simp; (first | done | with_reducible rfl))
  (try simp only [Act.put, List.setIfInBounds_toArray, List.set_cons_zero, List.set_cons_succ])
  refine wpAnyH_ready (rs := [3]) (by kernel_rfl) (by simp) ?_
  refine AllReadyH.cons (o := ⟨some 7, _, _, _, _, _⟩) rfl (fun K hK => ?_) AllReadyH.nil
  go_simp
  refine hK.out _ _ ?_ (fun hHeld1 => ?_)
  · (try dsimp only)
    first | exact ⟨pf, pb⟩ | exact ⟨(World.frozen?_setCell _ _ _ _).trans pf, cell_far d1 _ pb⟩
  clear hK K hHeld0
  (try simp only [Act.put, List.setIfInBounds_toArray, List.set_cons_zero, List.set_cons_succ])
  refine wpAnyH_take (i := 6) (oi := ⟨some 10, _, _, _, _, _⟩) (v := ?_) rfl (by kernel_rfl) (by kernel_rfl) (by kernel_rfl) (fun _ _ _ h => h) (Or.inl ⟨by kernel_rfl, ?_⟩) (by assumption) ?_
  rotate_left
  · (intro w hSw; (try dsimp only at hSw); go_simp; (first | done | with_reducible rfl))
  (try simp only [Act.put, List.setIfInBounds_toArray, List.set_cons_zero, List.set_cons_succ])
  refine wpAnyH_take (i := 7) (oi := ⟨some 11, _, _, _, _, _⟩) (v := ?_) rfl (by kernel_rfl) (by kernel_rfl) (by kernel_rfl) (fun _ _ _ h => h) (Or.inl ⟨by kernel_rfl, ?_⟩) (by assumption) ?_
  rotate_left
  · (intro w hSw; (try dsimp only at hSw); go_simp; (first | done | with_reducible rfl))
  (try simp only [Act.put, List.setIfInBounds_toArray, List.set_cons_zero, List.set_cons_succ])
  refine wpAnyH_take (i := 8) (oi := ⟨some 12, _, _, _, _, _⟩) (v := ?_) rfl (by kernel_rfl) (by kernel_rfl) (by kernel_rfl) (fun _ _ _ h => h) (Or.inl ⟨by kernel_rfl, ?_⟩) (by assumption) ?_
  rotate_left
  · (intro w hSw; (try dsimp only at hSw); go_simp; (first | done | with_reducible rfl))
  (try simp only [Act.put, List.setIfInBounds_toArray, List.set_cons_zero, List.set_cons_succ])
  refine wpAnyH_ready (rs := [9]) (by kernel_rfl) (by simp) ?_
  refine AllReadyH.cons rfl (fun K hK => ?_) AllReadyH.nil
  go_simp
  refine hK.out _ _ ?_ (fun hHeld2 => ?_)
  · (try dsimp only)
    first | exact ⟨pf, pb⟩ | exact ⟨(World.frozen?_setCell _ _ _ _).trans pf, cell_far d1 _ pb⟩
  clear hK K hHeld1
  (try simp only [Act.put, List.setIfInBounds_toArray, List.set_cons_zero, List.set_cons_succ])
  refine wpAnyH_done (by kernel_rfl) ?_ _
  clear hHeld2
  have HH1 := Lib.hid (HHH.out.set 1 (.int .i64 ((u : Int) + (q.length : Int))))
  have HC1 := Lib.hid ((Chg.set w ⟨db, 1, none⟩ (.int .i64 ((u : Int) + (q.length : Int)))).drew)
  have HH2 : Hid (Holds (w.setCell ⟨db, 1, none⟩ (.int .i64 ((u : Int) + (q.length : Int)))).drew db 54 #[.int .i64 (size : Int), .int .i64 ((u : Int) + (q.length : Int)), .map (some bm), hv]) := HH1.out
  generalize (w.setCell ⟨db, 1, none⟩ (.int .i64 ((u : Int) + (q.length : Int)))).drew = w1 at HC1 HH2 ⊢
  clear HH1
  have HM1 := Lib.hid (HMM.out.chg HC1.out (fun e => hbd e.symm))
  have q2 : w1.cell? ⟨db, 2, none⟩ = some (.map (some bm)) := HH2.out.cell 2
  have qb := HC1.out.cell (p := ⟨bb, 0, none⟩) (fun e => d1 e.symm) pb
  have qn := HC1.out.cell (p := ⟨bn, 0, none⟩) (fun e => d2 e.symm) pn
  go_wp2_with fail
  refine wp_region_held_drew (S := (fun w' => w'.cell? ⟨db, 2, none⟩ = some (.map (some bm)) ∧ w'.cell? ⟨bb, 0, none⟩ = some (.slice (some ⟨blk, off, none⟩) q.length cap) ∧ w'.cell? ⟨bn, 0, none⟩ = some (.string s))) (by kernel_rfl) ?_ (fun hHeld0 => ?_)
  · (try dsimp only)
    first | exact ⟨q2, qb, qn⟩ | exact ⟨r2, rb, rn⟩ | exact ⟨hc6.cell (p := ⟨db, 2, none⟩) hbd r2, hc6.cell (p := ⟨bb, 0, none⟩) m1 rb, hc6.cell (p := ⟨bn, 0, none⟩) m2 rn⟩
  refine wpAnyH_take (i := 0) (oi := ⟨some 13, _, _, _, _, _⟩) (v := ?_) rfl (by kernel_rfl) (by kernel_rfl) (by kernel_rfl) (fun _ _ _ h => h) (Or.inl ⟨by kernel_rfl, ?_⟩) (by assumption) ?_
  rotate_left
  · (intro w hSw; (try dsimp only at hSw); go_simp; (first | done | with_reducible rfl))
  (try simp only [Act.put, List.setIfInBounds_toArray, List.set_cons_zero, List.set_cons_succ])
  refine wpAnyH_take (i := 1) (oi := ⟨some 14, _, _, _, _, _⟩) (v := ?_) rfl (by kernel_rfl) (by kernel_rfl) (by kernel_rfl) (fun _ _ _ h => h) (Or.inl ⟨by kernel_rfl, ?_⟩) (by assumption) ?_
  rotate_left
  · (intro w hSw; (try dsimp only at hSw); go_simp; (first | done | with_reducible rfl))
  (try simp only [Act.put, List.setIfInBounds_toArray, List.set_cons_zero, List.set_cons_succ])
  refine wpAnyH_take (i := 2) (oi := ⟨some 15, _, _, _, _, _⟩) (v := ?_) rfl (by kernel_rfl) (by kernel_rfl) (by kernel_rfl) (fun _ _ _ h => h) (Or.inl ⟨by kernel_rfl, ?_⟩) (by assumption) ?_
  rotate_left
  · (intro w hSw; (try dsimp only at hSw); go_simp; (first | done | with_reducible rfl))
  (try simp only [Act.put, List.setIfInBounds_toArray, List.set_cons_zero, List.set_cons_succ])
  refine wpAnyH_take (i := 3) (oi := ⟨some 16, _, _, _, _, _⟩) (v := ?_) rfl (by kernel_rfl) (by kernel_rfl) (by kernel_rfl) (fun _ _ _ h => h) (Or.inl ⟨by kernel_rfl, ?_⟩) (by assumption) ?_
  rotate_left
  · (intro w hSw; (try dsimp only at hSw); go_simp; (first | done | with_reducible rfl))
  (try simp only [Act.put, List.setIfInBounds_toArray, List.set_cons_zero, List.set_cons_succ])
  refine wpAnyH_take (i := 4) (oi := ⟨some 17, _, _, _, _, _⟩) (v := ?_) rfl (by kernel_rfl) (by kernel_rfl) (by kernel_rfl) (fun _ _ _ h => h) (Or.inl ⟨by kernel_rfl, ?_⟩) (by assumption) ?_
  rotate_left
  · (intro w hSw; (try dsimp only at hSw); go_simp; (first | done | with_reducible rfl))
  (try simp only [Act.put, List.setIfInBounds_toArray, List.set_cons_zero, List.set_cons_succ])
  refine wpAnyH_take (i := 5) (oi := ⟨some 18, _, _, _, _, _⟩) (v := ?_) rfl (by kernel_rfl) (by kernel_rfl) (by kernel_rfl) (fun _ _ _ h => h) (Or.inl ⟨by kernel_rfl, ?_⟩) (by assumption) ?_
  rotate_left
  · (intro w hSw; (try dsimp only at hSw); go_simp; (first | done | with_reducible rfl))
  (try simp only [Act.put, List.setIfInBounds_toArray, List.set_cons_zero, List.set_cons_succ])
  refine wpAnyH_take (i := 6) (oi := ⟨some 19, _, _, _, _, _⟩) (v := ?_) rfl (by kernel_rfl) (by kernel_rfl) (by kernel_rfl) (fun _ _ _ h => h) (Or.inl ⟨by kernel_rfl, ?_⟩) (by assumption) ?_
  rotate_left
  · (intro w hSw; (try dsimp only at hSw); go_simp; (first | done | with_reducible rfl))
  (try simp only [Act.put, List.setIfInBounds_toArray, List.set_cons_zero, List.set_cons_succ])
  refine wpAnyH_take (i := 7) (oi := ⟨some 20, _, _, _, _, _⟩) (v := ?_) rfl (by kernel_rfl) (by kernel_rfl) (by kernel_rfl) (fun _ _ _ h => h) (Or.inl ⟨by kernel_rfl, ?_⟩) (by assumption) ?_
  rotate_left
  · (intro w hSw; (try dsimp only at hSw); go_simp; (first | done | with_reducible rfl))
  (try simp only [Act.put, List.setIfInBounds_toArray, List.set_cons_zero, List.set_cons_succ])
  refine wpAnyH_take (i := 8) (oi := ⟨some 21, _, _, _, _, _⟩) (v := ?_) rfl (by kernel_rfl) (by kernel_rfl) (by kernel_rfl) (fun _ _ _ h => h) (Or.inl ⟨by kernel_rfl, ?_⟩) (by assumption) ?_
  rotate_left
  · (intro w hSw; (try dsimp only at hSw); go_simp; (first | done | with_reducible rfl))
  (try simp only [Act.put, List.setIfInBounds_toArray, List.set_cons_zero, List.set_cons_succ])
  refine wpAnyH_take (i := 9) (oi := ⟨some 22, _, _, _, _, _⟩) (v := ?_) rfl (by kernel_rfl) (by kernel_rfl) (by kernel_rfl) (fun _ _ _ h => h) (Or.inl ⟨by kernel_rfl, ?_⟩) (by assumption) ?_
  rotate_left
  · (intro w hSw; (try dsimp only at hSw); go_simp; (first | done | with_reducible rfl))
  (try simp only [Act.put, List.setIfInBounds_toArray, List.set_cons_zero, List.set_cons_succ])
  refine wpAnyH_take (i := 11) (oi := ⟨some 24, _, _, _, _, _⟩) (v := ?_) rfl (by kernel_rfl) (by kernel_rfl) (by kernel_rfl) (fun _ _ _ h => h) (Or.inl ⟨by kernel_rfl, ?_⟩) (by assumption) ?_
  rotate_left
  · (intro w hSw; (try dsimp only at hSw); go_simp; (first | done | with_reducible rfl))
  (try simp only [Act.put, List.setIfInBounds_toArray, List.set_cons_zero, List.set_cons_succ])
  refine wpAnyH_ready (rs := [10]) (by kernel_rfl) (by simp) ?_
  refine AllReadyH.cons (o := ⟨some 23, _, _, _, _, _⟩) rfl (fun K hK => ?_) AllReadyH.nil
  have hl := (HM1.out.eq (w' := w1.drew) rfl).look (s := s) str_key map_under (zero_bytes w1.drew) (by simp only [maxLen]; omega)
  rw [HV.out] at hl
  go_simp
  clear hl
  refine hK.out _ _ ?_ (fun hHeld1 => ?_)
  · (try dsimp only)
    first | exact ⟨q2, qb, qn⟩ | exact ⟨r2, rb, rn⟩ | exact ⟨hc6.cell (p := ⟨db, 2, none⟩) hbd r2, hc6.cell (p := ⟨bb, 0, none⟩) m1 rb, hc6.cell (p := ⟨bn, 0, none⟩) m2 rn⟩
  clear hK K hHeld0
  (try simp only [Act.put, List.setIfInBounds_toArray, List.set_cons_zero, List.set_cons_succ])
  refine wpAnyH_ready (rs := [12]) (by kernel_rfl) (by simp) ?_
  refine AllReadyH.cons (o := ⟨some 25, _, _, _, _, _⟩) rfl (fun K hK => ?_) AllReadyH.nil
  obtain ⟨i0, hi, hz0, hz1, hz2⟩ := info_parts info_u8
  refine step_append_lies _ (by rfl) _ _ _ (by rfl) 0 5 i0 _ 1 1 under_bytes hi hz0 hz1 hz2 rfl (by omega) vv o.length (u8L o) (by rfl)
    (HC1.out.drew.owns HR.out (fun k hk => (HO.out k hk).1)) ⟨blk, off, none⟩ q.length cap (u8L q) (by rfl) (by rw [u8L_length]; omega) (fun j u hj => by rw [add_addr]; exact HC1.out.drew.cell (p := ⟨blk, off + j, none⟩) d3 (HQ.out j u hj)) (fun u hu => u8L_one hu) hq1 (by simp only [maxLen]; omega) (by omega) (Nat.zero_le _) w1.heap.size rfl ?_
  rintro g5 cap5 w5 ho5 hg5 hlie hlt5
  have HC5 := Lib.hid (Chg.grown hg5)
  have HM5 := Lib.hid (((HM1.out.eq (w' := w1.drew) rfl)).chg HC5.out v4)
  have HO5 := Lib.hid (And.intro ho5 (And.intro hlie hlt5))
  have r2 := HC5.out.cell (p := ⟨db, 2, none⟩) v3 q2
  have rb := HC5.out.cell (p := ⟨bb, 0, none⟩) v1 qb
  have rn := HC5.out.cell (p := ⟨bn, 0, none⟩) v2 qn
  clear ho5 hg5 hlie hlt5
  refine hK.out _ _ ?_ (fun hHeld2 => ?_)
  · (try dsimp only)
    first | exact ⟨q2, qb, qn⟩ | exact ⟨r2, rb, rn⟩ | exact ⟨hc6.cell (p := ⟨db, 2, none⟩) hbd r2, hc6.cell (p := ⟨bb, 0, none⟩) m1 rb, hc6.cell (p := ⟨bn, 0, none⟩) m2 rn⟩
  clear hK K hHeld1
  (try simp only [Act.put, List.setIfInBounds_toArray, List.set_cons_zero, List.set_cons_succ])
  refine wpAnyH_ready (rs := [13]) (by kernel_rfl) (by simp) ?_
  refine AllReadyH.cons rfl (fun K hK => ?_) AllReadyH.nil
  obtain ⟨w6, hr6, hm6, hc6, hz6⟩ := HM5.out.store HUU.out str_key map_under (by simp only [maxLen]; omega) ⟨s, .slice (some ⟨g5, 0, none⟩) (o.length + q.length) cap5, o ++ q⟩ (by simp only [maxLen]; omega)
  go_simp
  refine hK.out _ _ ?_ (fun hHeld3 => ?_)
  · (try dsimp only)
    first | exact ⟨q2, qb, qn⟩ | exact ⟨r2, rb, rn⟩ | exact ⟨hc6.cell (p := ⟨db, 2, none⟩) hbd r2, hc6.cell (p := ⟨bb, 0, none⟩) m1 rb, hc6.cell (p := ⟨bn, 0, none⟩) m2 rn⟩
  clear hK K hHeld2
  (try simp only [Act.put, List.setIfInBounds_toArray, List.set_cons_zero, List.set_cons_succ])
  refine wpAnyH_done (by kernel_rfl) ?_ _
  have HF6 := Lib.hid (And.intro hm6 (And.intro hc6 hz6))
  clear hm6 hc6 hr6 hz6
  go_wp2_with fail
  go_end0
  have hlt1 : bm < w1.heap.size := HM1.out.lt
  have hg5 : ¬ g5 = bm := fun e => by
    rcases HO5.out.2.1 with h | h
    · exact (HO.out _ h).2 e
    · omega
  have hsz := HC1.out.size
  refine ⟨⟨_, rfl⟩, _, ?_, HF6.out.1, ?_, fun k hk => ?_, ?_⟩
  · rw [Int.natCast_add]
    exact HF6.out.2.1.holds hbd (HC5.out.holds v3 HH2.out.drew)
  · rw [List.length_append, u8L_append]
    exact HF6.out.2.1.owns HO5.out.1 (fun k hk => by injection hk with hk; subst hk; exact hg5)
  · injection hk with hk
    subst hk
    refine ⟨?_, by rw [HF6.out.2.2]; exact HO5.out.2.2⟩
    rcases HO5.out.2.1 with h | h
    · exact .inl h
    · exact .inr (by show w.heap.size ≤ g5; omega)
  · exact ((HC1.out.mono (T := fun k => k = db ∨ k = bm ∨ vv.ownBlock = some k) (fun k _ h => Or.inl h)).drew.trans HC5.out (fun k _ h => Or.inr (Or.inr h.symm))).trans HF6.out.2.1 (fun k _ h => Or.inr (Or.inl h))
end Go.Proofs.YtmldpehkacemfaaGreatDoor
namespace Go.Proofs.YtmldpehkacemfaaGreatDoor
open Go.RowKit Go.Bd
theorem DiskAt.put {w w' : World} {F Ro : Nat → Prop} {db size bm : Nat} {es : List Fe} {hist rs : List Raw} {hv : Value} {fs : List Value} (h : DiskAt w F Ro db size es hist bm hv fs rs) {e : Fe} {r : Raw} (hn : e.name.size ≤ 80)
    (hh : Holds w' db 54 #[.int .i64 (size : Int), .int .i64 (usedB (setB (fsOf es) e.name e.c) : Int), .map (some bm), hv]) (hm : FsMap w' Tryz.prog 9 bm (putF es e)) (hr : w'.ownsRow 0 5 1 e.v e.c.length (u8L e.c))
    (hb : ∀ k, e.v.ownBlock = some k → ((valF es e.name).ownBlock = some k ∨ w.heap.size ≤ k) ∧ k < w'.heap.size) (hc : Chg w w' (fun k => k = db ∨ k = bm ∨ (valF es e.name).ownBlock = some k)) (hs : r.app (fsOf es) = setB (fsOf es) e.name e.c) :
    DiskAt w' (fun k => F k ∨ (w.heap.size ≤ k ∧ k < w'.heap.size)) Ro db size (putF es e) hist bm hv fs (rs ++ [r]) := by
  have hvF : ∀ k, (valF es e.name).ownBlock = some k → F k := valF_off h.inEs e.name
  have hvO := valF_off (Q := fun k => ¬ k = db ∧ ¬ k = bm ∧ hv.ownBlock ≠ some k) h.offDb.2.2 e.name
  have hdel : ∀ a ∈ delF es e.name, ∀ k, a.v.ownBlock = some k → ¬ (valF es e.name).ownBlock = some k := by
    intro a ha k hk
    unfold valF
    cases hf : findF es e.name with
    | none => intro h; cases h
    | some x =>
      have hx : x ∈ es := List.mem_of_find?_eq_some hf
      have hxn := findF_name hf
      have ha' := List.mem_filter.1 ha
      have hne : a.name ≠ e.name := by simpa using ha'.2
      obtain ⟨i, hi, rfl⟩ := List.mem_iff_getElem.1 hx
      obtain ⟨j, hj, rfl⟩ := List.mem_iff_getElem.1 ha'.1
      have hij : i ≠ j := fun e => by subst e; exact hne hxn
      have hp := List.pairwise_iff_getElem.1 h.apart
      intro h2
      rcases Nat.lt_or_ge i j with hlt | hge
      · exact hp i j hi hj hlt k h2 hk
      · exact hp j i hj hi (by omega) k hk h2
  have hmem : ∀ a ∈ putF es e, a ∈ delF es e.name ∨ a = e := fun a ha => by
    rcases List.mem_append.1 ha with h | h
    · exact .inl h
    · exact .inr (List.mem_singleton.1 h)
  have hin : ∀ a ∈ delF es e.name, a ∈ es := fun a ha => (List.mem_filter.1 ha).1
  have hlow : ∀ a ∈ es, ∀ k, a.v.ownBlock = some k → k < w.heap.size := fun a ha k hk => h.ltF k (h.inEs a ha k hk)
  have hnew : ∀ k, e.v.ownBlock = some k → ¬ k = db ∧ ¬ k = bm ∧ hv.ownBlock ≠ some k := fun k hk => by
    rcases (hb k hk).1 with h2 | h2
    · exact hvO k h2
    · refine ⟨fun e => ?_, fun e => ?_, fun e => ?_⟩
      · have := h.ltF db h.inDb; omega
      · have := h.ltF bm h.inBm; omega
      · have := h.ltF k (h.inHv k e); omega
  exact {
    hold := by rw [fsOf_put]; exact hh
    map := hm
    uniq := h.uniq.put e
    names := fun a ha => by
      rcases hmem a ha with h2 | rfl
      · exact h.names a (hin a h2)
      · exact hn
    rows := fun a ha => by
      rcases hmem a ha with h2 | rfl
      · refine hc.owns (h.rows a (hin a h2)) (fun k hk h3 => ?_)
        have h4 := h.offDb.2.2 a (hin a h2) k hk
        rcases h3 with h3 | h3 | h3
        · exact h4.1 h3
        · exact h4.2.1 h3
        · exact hdel a h2 k hk h3
      · exact hr
    apart := by
      unfold Apart putF
      rw [List.pairwise_append]
      refine ⟨List.Pairwise.filter _ h.apart, List.pairwise_singleton _ _, fun a ha b hb2 k hk hk2 => ?_⟩
      rw [List.mem_singleton] at hb2
      subst hb2
      rcases (hb k hk2).1 with h2 | h2
      · exact hdel a ha k hk h2
      · have := hlow a (hin a ha) k hk; omega
    row := hc.owns h.row (fun k hk h3 => by
      have h4 := h.offDb.2.1 k hk
      rcases h3 with h3 | h3 | h3
      · exact h4.1 h3
      · exact h4.2 h3
      · exact (hvO k h3).2.2 hk)
    raws := h.raws.chg hc (fun _ hk => hk) (fun k hk h3 => by
      rcases h3 with h3 | h3 | h3
      · exact h.off k hk (h3 ▸ h.inDb)
      · exact h.off k hk (h3 ▸ h.inBm)
      · exact h.off k hk (hvF k h3))
    says := by rw [runR_snoc, fsOf_put, ← h.says]; exact hs.symm
    inDb := .inl h.inDb
    inBm := .inl h.inBm
    inHv := fun k hk => .inl (h.inHv k hk)
    inEs := fun a ha k hk => by
      rcases hmem a ha with h2 | rfl
      · exact .inl (h.inEs a (hin a h2) k hk)
      · rcases (hb k hk).1 with h2 | h2
        · exact .inl (hvF k h2)
        · exact .inr ⟨h2, (hb k hk).2⟩
    offDb := ⟨h.offDb.1, h.offDb.2.1, fun a ha k hk => by
      rcases hmem a ha with h2 | rfl
      · exact h.offDb.2.2 a (hin a h2) k hk
      · exact hnew k hk⟩
    ltF := fun k hk => by
      rcases hk with hk | hk
      · exact Nat.lt_of_lt_of_le (h.ltF k hk) hc.size
      · exact hk.2
    ltR := fun k hk => Nat.lt_of_lt_of_le (h.ltR k hk) hc.size
    off := fun k hk h2 => by
      rcases h2 with h2 | h2
      · exact h.off k hk h2
      · have := h.ltR k hk; omega }
theorem DiskAt.del {w w' : World} {F Ro : Nat → Prop} {db size bm : Nat} {es : List Fe} {hist rs : List Raw} {hv : Value} {fs : List Value} (h : DiskAt w F Ro db size es hist bm hv fs rs) {s : ByteArray}
    (hh : Holds w' db 54 #[.int .i64 (size : Int), .int .i64 (usedB (delB (fsOf es) s) : Int), .map (some bm), hv]) (hm : FsMap w' Tryz.prog 9 bm (delF es s))
    (hc : Chg w w' (fun k => k = db ∨ k = bm)) : DiskAt w' F Ro db size (delF es s) hist bm hv fs (rs ++ [.gone s]) := by
  have hin : ∀ a ∈ delF es s, a ∈ es := fun a ha => (List.mem_filter.1 ha).1
  exact {
    hold := by rw [fsOf_del]; exact hh
    map := hm
    uniq := h.uniq.del s
    names := fun a ha => h.names a (hin a ha)
    rows := fun a ha => hc.owns (h.rows a (hin a ha)) (fun k hk h3 => by
      have h4 := h.offDb.2.2 a (hin a ha) k hk
      rcases h3 with h3 | h3
      · exact h4.1 h3
      · exact h4.2.1 h3)
    apart := List.Pairwise.filter _ h.apart
    row := hc.owns h.row (fun k hk h3 => by
      have h4 := h.offDb.2.1 k hk
      rcases h3 with h3 | h3
      · exact h4.1 h3
      · exact h4.2 h3)
    raws := h.raws.chg hc (fun _ hk => hk) (fun k hk h3 => by
      rcases h3 with h3 | h3
      · exact h.off k hk (h3 ▸ h.inDb)
      · exact h.off k hk (h3 ▸ h.inBm))
    says := by rw [runR_snoc, fsOf_del, ← h.says]; rfl
    inDb := h.inDb
    inBm := h.inBm
    inHv := h.inHv
    inEs := fun a ha => h.inEs a (hin a ha)
    offDb := ⟨h.offDb.1, h.offDb.2.1, fun a ha => h.offDb.2.2 a (hin a ha)⟩
    ltF := fun k hk => Nat.lt_of_lt_of_le (h.ltF k hk) hc.size
    ltR := fun k hk => Nat.lt_of_lt_of_le (h.ltR k hk) hc.size
    off := h.off }
theorem DiskAt.wider {w : World} {F F' Ro : Nat → Prop} {db size bm : Nat} {es : List Fe} {hist rs : List Raw} {hv : Value} {fs : List Value} (h : DiskAt w F Ro db size es hist bm hv fs rs) (hF : ∀ k, F k → F' k) (hl : ∀ k, F' k → k < w.heap.size) (hR : ∀ k, Ro k → ¬ F' k) : DiskAt w F' Ro db size es hist bm hv fs rs :=
  { h with inDb := hF _ h.inDb, inBm := hF _ h.inBm, inHv := fun k hk => hF _ (h.inHv k hk), inEs := fun e he k hk => hF _ (h.inEs e he k hk), ltF := hl, off := hR }
def rawFn : Raw → Nat
  | .empty _ => 69
  | .behind _ _ => 71
  | .gone _ => 78
theorem did_any {w : World} {F Ro : Nat → Prop} {db size bm : Nat} {es : List Fe} {hist rs : List Raw} {hv : Value} {fs : List Value} (h : DiskAt w F Ro db size es hist bm hv fs rs) {f : Value} {r : Raw} (hr : RawAt w Ro f r) (he : es.length < 1000000) (hu : usedB (fsOf es) ≤ 1000000000000) :
    ∃ bs, f = .func (.func (rawFn r)) #[] bs ∧ Calls Tryz.prog (rawFn r) (#[.pointer (some ⟨db, 0, none⟩)] ++ bs) w fun e w' => (∃ v, e = .returned v) ∧ ∃ es', DiskAt w' (fun k => F k ∨ (w.heap.size ≤ k ∧ k < w'.heap.size)) Ro db size es' hist bm hv fs (rs ++ [r]) ∧ Chg w w' F := by
  have hU : UniqB (fsOf es) := by rw [h.says]; exact uniq_runR _
  have hF2 : ∀ k, (k = db ∨ k = bm) → F k := fun k hk => by
    rcases hk with rfl | rfl
    · exact h.inDb
    · exact h.inBm
  cases r with
  | empty n =>
    obtain ⟨b, hb, rfl, hs, hn⟩ := hr
    refine ⟨_, rfl, (empty1_any h hb hs hn he hu).mono ?_⟩
    rintro e w' ⟨hv', hh, hm, hc⟩
    have e1 := used_set hU n []
    refine ⟨hv', _, h.put (e := ⟨n, .slice none 0 0, []⟩) (r := .empty n) hn ?_ hm (World.ownsRow_nil _ _ _ _) (fun k hk => by cases hk) (hc.mono (fun k _ hk => by rcases hk with hk | hk; exact .inl hk; exact .inr (.inl hk))) rfl, hc.mono (fun k _ hk => hF2 k hk)⟩
    have e2 : usedB (setB (fsOf es) n []) = usedB (fsOf es) - ((getB (fsOf es) n).getD []).length := by simp at e1; omega
    show Holds w' db _ #[_, .int .i64 (usedB (setB (fsOf es) n []) : Int), _, _]
    rw [e2]
    exact hh
  | gone n =>
    obtain ⟨b, hb, rfl, hs, hn⟩ := hr
    refine ⟨_, rfl, (gone1_any h hb hs hn he hu).mono ?_⟩
    rintro e w' ⟨hv', hh, hm, hc⟩
    have e1 := used_del hU n
    have e2 : usedB (delB (fsOf es) n) = usedB (fsOf es) - ((getB (fsOf es) n).getD []).length := by omega
    have h2 := h.del (s := n) (w' := w') (by rw [e2]; exact hh) hm hc
    refine ⟨hv', _, h2.wider (fun k hk => .inl hk) (fun k hk => ?_) (fun k hk h3 => ?_), hc.mono (fun k _ hk => hF2 k hk)⟩
    · rcases hk with hk | hk
      · exact h2.ltF k hk
      · exact hk.2
    · rcases h3 with h3 | h3
      · exact h.off k hk h3
      · have := h.ltR k hk; omega
  | behind n q =>
    obtain ⟨bb, bn, blk, off, cap, hb1, hb2, hb3, rfl, hq, hs, hn, ⟨hq1, hq2⟩, hqc⟩ := hr
    refine ⟨_, rfl, (behind1_any h hb1 hb2 hb3 hq hs hn hq1 hq2 hqc he hu).mono ?_⟩
    rintro e w' ⟨hv', v', hh, hm, ho, hb, hc⟩
    have e1 := used_set hU n ((getB (fsOf es) n).getD [] ++ q)
    have e2 : usedB (setB (fsOf es) n ((getB (fsOf es) n).getD [] ++ q)) = usedB (fsOf es) + q.length := by rw [List.length_append] at e1; omega
    refine ⟨hv', _, h.put (e := ⟨n, v', (getB (fsOf es) n).getD [] ++ q⟩) (r := .behind n q) hn ?_ hm ho hb hc rfl, hc.mono (fun k _ hk => ?_)⟩
    · show Holds w' db _ #[_, .int .i64 (usedB (setB (fsOf es) n ((getB (fsOf es) n).getD [] ++ q)) : Int), _, _]
      rw [e2]
      exact hh
    · rcases hk with rfl | rfl | hk
      · exact h.inDb
      · exact h.inBm
      · exact valF_off h.inEs n k hk
end Go.Proofs.YtmldpehkacemfaaGreatDoor
namespace Go.Proofs.YtmldpehkacemfaaGreatDoor
open Go.RowKit Go.Bd
theorem info_fn : (Tryz.prog.info? 75).map (fun i => (i.zero, i.size, i.bytes)) = some (some .nilFunc, 1, 8) := by kernel_rfl
theorem under_fns : Tryz.prog.underlying 52 = some (.slice 75) := by kernel_rfl
theorem DiskAt.kept {w w' : World} {F Ro : Nat → Prop} {db size bm : Nat} {es : List Fe} {hist : List Raw} {hv hv' : Value} {fs : List Value} {r : Raw} {f : Value} (h : DiskAt w F Ro db size es hist bm hv fs (hist ++ [r])) (hr : RawAt w Ro f r)
    (hh : Holds w' db 54 #[.int .i64 (size : Int), .int .i64 (usedB (fsOf es) : Int), .map (some bm), hv']) (hc : Chg w w' (fun k => k = db ∨ hv.ownBlock = some k))
    (ho : w'.ownsRow 0 75 1 hv' (hist.length + 1) (fs ++ [f])) (hb : ∀ k, hv'.ownBlock = some k → (hv.ownBlock = some k ∨ w.heap.size ≤ k) ∧ k < w'.heap.size) :
    DiskAt w' (fun k => F k ∨ (w.heap.size ≤ k ∧ k < w'.heap.size)) Ro db size es (hist ++ [r]) bm hv' (fs ++ [f]) (hist ++ [r]) := by
  have hS : ∀ k, Ro k → ¬ (k = db ∨ hv.ownBlock = some k) := fun k hk h3 => by
    rcases h3 with h3 | h3
    · exact h.off k hk (h3 ▸ h.inDb)
    · exact h.off k hk (h.inHv k h3)
  exact {
    hold := hh
    map := h.map.chg hc (fun h3 => by
      rcases h3 with h3 | h3
      · exact h.offDb.1 h3.symm
      · exact (h.offDb.2.1 _ h3).2 rfl)
    uniq := h.uniq
    names := h.names
    rows := fun a ha => hc.owns (h.rows a ha) (fun k hk h3 => by
      have h4 := h.offDb.2.2 a ha k hk
      rcases h3 with h3 | h3
      · exact h4.1 h3
      · exact h4.2.2 h3)
    apart := h.apart
    row := by rw [List.length_append]; exact ho
    raws := (h.raws.chg hc (fun _ hk => hk) hS).snoc (hr.chg hc (fun _ hk => hk) hS)
    says := h.says
    inDb := .inl h.inDb
    inBm := .inl h.inBm
    inHv := fun k hk => by
      rcases (hb k hk).1 with h2 | h2
      · exact .inl (h.inHv k h2)
      · exact .inr ⟨h2, (hb k hk).2⟩
    inEs := fun a ha k hk => .inl (h.inEs a ha k hk)
    offDb := ⟨h.offDb.1, fun k hk => by
      rcases (hb k hk).1 with h2 | h2
      · exact h.offDb.2.1 k h2
      · have h3 := h.ltF db h.inDb
        have h4 := h.ltF bm h.inBm
        exact ⟨fun e => by omega, fun e => by omega⟩, fun a ha k hk => ⟨(h.offDb.2.2 a ha k hk).1, (h.offDb.2.2 a ha k hk).2.1, fun e => by
      rcases (hb k e).1 with h2 | h2
      · exact (h.offDb.2.2 a ha k hk).2.2 h2
      · have := h.ltF k (h.inEs a ha k hk); omega⟩⟩
    ltF := fun k hk => by
      rcases hk with hk | hk
      · exact Nat.lt_of_lt_of_le (h.ltF k hk) hc.size
      · exact hk.2
    ltR := fun k hk => Nat.lt_of_lt_of_le (h.ltR k hk) hc.size
    off := fun k hk h2 => by
      rcases h2 with h2 | h2
      · exact h.off k hk h2
      · have := h.ltR k hk; omega }
set_option maxRecDepth 100000 in
set_option maxHeartbeats 2000000 in
theorem raw_any {w : World} {F Ro : Nat → Prop} {db size bm : Nat} {es : List Fe} {hist : List Raw} {hv : Value} {fs : List Value} (h : DiskAt w F Ro db size es hist bm hv fs hist) {f : Value} {r : Raw} (hr : RawAt w Ro f r) (he : es.length < 1000000) (hu : usedB (fsOf es) ≤ 1000000000000) (hh : hist.length ≤ 1000000000) :
    Calls Tryz.prog 40 #[.pointer (some ⟨db, 0, none⟩), f] w fun e w' => (∃ v, e = .returned v) ∧ ∃ es' hv', DiskAt w' (fun k => F k ∨ (w.heap.size ≤ k ∧ k < w'.heap.size)) Ro db size es' (hist ++ [r]) bm hv' (fs ++ [f]) (hist ++ [r]) ∧ Chg w w' F := by
  have HRW := Lib.hid hr
  have HOFF := Lib.hid h.off
  have HLR := Lib.hid h.ltR
  have hd := did_any h hr he hu
  obtain ⟨HA, hcp, rfl⟩ : ∃ A c, hv = .slice A hist.length c := by
    rcases h.row.2 with ⟨h1, h2⟩ | ⟨g, cap, cur, h1, _⟩
    · exact ⟨none, 0, by rw [h1, h2]⟩
    · exact ⟨_, _, h1⟩
  obtain ⟨i0, hi, hz0, hz1, hz2⟩ := info_parts info_fn
  obtain ⟨bs, e, hc⟩ := hd
  cases r with
  | empty n =>
    obtain ⟨b, hb, rfl, hs, hn⟩ := hr
    injection e with e1 e2 e
    clear e1 e2
    subst e
    clear h
    unfold rawFn at hc
    simp only [List.append_toArray, List.cons_append, List.nil_append] at hc
    go_enter Tryz.func40, Tryz.ntmps40
    go_wp2_with (first
      | (go_at_call 69; refine hc.mono ?_; rintro e w1 ⟨⟨v0, rfl⟩, es', h1, hc1⟩; have p3 := h1.hold.cell 3; simp at p3; have hlt1 : db < w1.heap.size := h1.hold.lt)
      | (at_builtin; refine wpList_append_lies _ (by rfl) _ _ _ (by rfl) 0 75 i0 _ 1 8 under_fns hi hz0 hz1 hz2 rfl (by decide) (.slice HA hist.length hcp) hist.length fs (by rfl) ((h1.row).alloc _) ⟨w1.heap.size, 0, none⟩ 1 1 [_] (by rfl) rfl (cell_one_new _ _ _) (by simp [Value.oneCell']) (by omega) (by simp only [maxLen]; omega) (by omega) (Nat.zero_le _) (w1.heap.size + 1) (by simp) ?_; rintro g cap w2 ho2 hg2 hl2 hlt2; have hr1 : ¬ some db = Value.ownBlock (.slice HA hist.length hcp) := fun e => (h1.offDb.2.1 _ e.symm).1 rfl; have HH2 := (Chg.grown hg2).holds hr1 (h1.hold.alloc _); have q3 := HH2.cell 3; have qf := HH2.free 3))
    go_end0
    have hb := HRW.out.chg hc1 (fun _ hk => hk) HOFF.out
    have hgd : ¬ g = db := fun e => by
      rcases hl2 with h2 | h2
      · exact hr1 (e ▸ h2.symm)
      · omega
    have hc3 := (((Chg.refl w1 (fun k => k = db ∨ Value.ownBlock (.slice HA hist.length hcp) = some k)).alloc (.cells #[_] 75)).trans (Chg.grown hg2) (fun k _ e => .inr e.symm)).trans (Chg.set w2 ⟨db, 3, none⟩ (.slice (some ⟨g, 0, none⟩) (hist.length + 1) cap)) (fun k _ e => .inl e)
    have hset := Chg.set w2 ⟨db, 3, none⟩ (.slice (some ⟨g, 0, none⟩) (hist.length + 1) cap)
    have hk := h1.kept hb (HH2.set 3 (.slice (some ⟨g, 0, none⟩) (hist.length + 1) cap)) hc3 (hset.owns ho2 (fun k hk e => by injection hk with hk; exact hgd (hk.trans e))) (fun k hk => by
      obtain rfl : g = k := by injection hk
      refine ⟨?_, Nat.lt_of_lt_of_le hlt2 hset.size⟩
      rcases hl2 with h2 | h2
      · exact .inl h2
      · exact .inr (by omega))
    have hs1 := hc1.size
    have hs3 := hc3.size
    refine ⟨⟨_, rfl⟩, es', _, hk.wider (fun k hk => ?_) (fun k hk2 => ?_) (fun k hk2 h3 => ?_), hc1.trans hc3 (fun k hlt hk2 => ?_)⟩
    · rcases hk with (hk | hk) | hk
      · exact .inl hk
      · exact .inr ⟨hk.1, by omega⟩
      · exact .inr ⟨by omega, hk.2⟩
    · rcases hk2 with hk2 | hk2
      · exact hk.ltF k (.inl (.inl hk2))
      · exact hk2.2
    · rcases h3 with h3 | h3
      · exact HOFF.out k hk2 h3
      · have := HLR.out k hk2; omega
    · have hF1 : F k ∨ (w.heap.size ≤ k ∧ k < w1.heap.size) := by
        rcases hk2 with h2 | h2
        · exact h2 ▸ h1.inDb
        · exact h1.inHv k h2
      rcases hF1 with h2 | h2
      · exact h2
      · omega
  | gone n =>
    obtain ⟨b, hb, rfl, hs, hn⟩ := hr
    injection e with e1 e2 e
    clear e1 e2
    subst e
    clear h
    unfold rawFn at hc
    simp only [List.append_toArray, List.cons_append, List.nil_append] at hc
    go_enter Tryz.func40, Tryz.ntmps40
    go_wp2_with (first
      | (go_at_call 78; refine hc.mono ?_; rintro e w1 ⟨⟨v0, rfl⟩, es', h1, hc1⟩; have p3 := h1.hold.cell 3; simp at p3; have hlt1 : db < w1.heap.size := h1.hold.lt)
      | (at_builtin; refine wpList_append_lies _ (by rfl) _ _ _ (by rfl) 0 75 i0 _ 1 8 under_fns hi hz0 hz1 hz2 rfl (by decide) (.slice HA hist.length hcp) hist.length fs (by rfl) ((h1.row).alloc _) ⟨w1.heap.size, 0, none⟩ 1 1 [_] (by rfl) rfl (cell_one_new _ _ _) (by simp [Value.oneCell']) (by omega) (by simp only [maxLen]; omega) (by omega) (Nat.zero_le _) (w1.heap.size + 1) (by simp) ?_; rintro g cap w2 ho2 hg2 hl2 hlt2; have hr1 : ¬ some db = Value.ownBlock (.slice HA hist.length hcp) := fun e => (h1.offDb.2.1 _ e.symm).1 rfl; have HH2 := (Chg.grown hg2).holds hr1 (h1.hold.alloc _); have q3 := HH2.cell 3; have qf := HH2.free 3))
    go_end0
    have hb := HRW.out.chg hc1 (fun _ hk => hk) HOFF.out
    have hgd : ¬ g = db := fun e => by
      rcases hl2 with h2 | h2
      · exact hr1 (e ▸ h2.symm)
      · omega
    have hc3 := (((Chg.refl w1 (fun k => k = db ∨ Value.ownBlock (.slice HA hist.length hcp) = some k)).alloc (.cells #[_] 75)).trans (Chg.grown hg2) (fun k _ e => .inr e.symm)).trans (Chg.set w2 ⟨db, 3, none⟩ (.slice (some ⟨g, 0, none⟩) (hist.length + 1) cap)) (fun k _ e => .inl e)
    have hset := Chg.set w2 ⟨db, 3, none⟩ (.slice (some ⟨g, 0, none⟩) (hist.length + 1) cap)
    have hk := h1.kept hb (HH2.set 3 (.slice (some ⟨g, 0, none⟩) (hist.length + 1) cap)) hc3 (hset.owns ho2 (fun k hk e => by injection hk with hk; exact hgd (hk.trans e))) (fun k hk => by
      obtain rfl : g = k := by injection hk
      refine ⟨?_, Nat.lt_of_lt_of_le hlt2 hset.size⟩
      rcases hl2 with h2 | h2
      · exact .inl h2
      · exact .inr (by omega))
    have hs1 := hc1.size
    have hs3 := hc3.size
    refine ⟨⟨_, rfl⟩, es', _, hk.wider (fun k hk => ?_) (fun k hk2 => ?_) (fun k hk2 h3 => ?_), hc1.trans hc3 (fun k hlt hk2 => ?_)⟩
    · rcases hk with (hk | hk) | hk
      · exact .inl hk
      · exact .inr ⟨hk.1, by omega⟩
      · exact .inr ⟨by omega, hk.2⟩
    · rcases hk2 with hk2 | hk2
      · exact hk.ltF k (.inl (.inl hk2))
      · exact hk2.2
    · rcases h3 with h3 | h3
      · exact HOFF.out k hk2 h3
      · have := HLR.out k hk2; omega
    · have hF1 : F k ∨ (w.heap.size ≤ k ∧ k < w1.heap.size) := by
        rcases hk2 with h2 | h2
        · exact h2 ▸ h1.inDb
        · exact h1.inHv k h2
      rcases hF1 with h2 | h2
      · exact h2
      · omega
  | behind n q =>
    obtain ⟨bb, bn, blk, off, cap0, hb1, hb2, hb3, rfl, hq, hs, hn, hqq, hqc⟩ := hr
    clear hq hs hqc
    injection e with e1 e2 e
    clear e1 e2
    subst e
    clear h
    unfold rawFn at hc
    simp only [List.append_toArray, List.cons_append, List.nil_append] at hc
    go_enter Tryz.func40, Tryz.ntmps40
    go_wp2_with (first
      | (go_at_call 71; refine hc.mono ?_; rintro e w1 ⟨⟨v0, rfl⟩, es', h1, hc1⟩; have p3 := h1.hold.cell 3; simp at p3; have hlt1 : db < w1.heap.size := h1.hold.lt)
      | (at_builtin; refine wpList_append_lies _ (by rfl) _ _ _ (by rfl) 0 75 i0 _ 1 8 under_fns hi hz0 hz1 hz2 rfl (by decide) (.slice HA hist.length hcp) hist.length fs (by rfl) ((h1.row).alloc _) ⟨w1.heap.size, 0, none⟩ 1 1 [_] (by rfl) rfl (cell_one_new _ _ _) (by simp [Value.oneCell']) (by omega) (by simp only [maxLen]; omega) (by omega) (Nat.zero_le _) (w1.heap.size + 1) (by simp) ?_; rintro g cap w2 ho2 hg2 hl2 hlt2; have hr1 : ¬ some db = Value.ownBlock (.slice HA hist.length hcp) := fun e => (h1.offDb.2.1 _ e.symm).1 rfl; have HH2 := (Chg.grown hg2).holds hr1 (h1.hold.alloc _); have q3 := HH2.cell 3; have qf := HH2.free 3))
    go_end0
    have hb := HRW.out.chg hc1 (fun _ hk => hk) HOFF.out
    have hgd : ¬ g = db := fun e => by
      rcases hl2 with h2 | h2
      · exact hr1 (e ▸ h2.symm)
      · omega
    have hc3 := (((Chg.refl w1 (fun k => k = db ∨ Value.ownBlock (.slice HA hist.length hcp) = some k)).alloc (.cells #[_] 75)).trans (Chg.grown hg2) (fun k _ e => .inr e.symm)).trans (Chg.set w2 ⟨db, 3, none⟩ (.slice (some ⟨g, 0, none⟩) (hist.length + 1) cap)) (fun k _ e => .inl e)
    have hset := Chg.set w2 ⟨db, 3, none⟩ (.slice (some ⟨g, 0, none⟩) (hist.length + 1) cap)
    have hk := h1.kept hb (HH2.set 3 (.slice (some ⟨g, 0, none⟩) (hist.length + 1) cap)) hc3 (hset.owns ho2 (fun k hk e => by injection hk with hk; exact hgd (hk.trans e))) (fun k hk => by
      obtain rfl : g = k := by injection hk
      refine ⟨?_, Nat.lt_of_lt_of_le hlt2 hset.size⟩
      rcases hl2 with h2 | h2
      · exact .inl h2
      · exact .inr (by omega))
    have hs1 := hc1.size
    have hs3 := hc3.size
    refine ⟨⟨_, rfl⟩, es', _, hk.wider (fun k hk => ?_) (fun k hk2 => ?_) (fun k hk2 h3 => ?_), hc1.trans hc3 (fun k hlt hk2 => ?_)⟩
    · rcases hk with (hk | hk) | hk
      · exact .inl hk
      · exact .inr ⟨hk.1, by omega⟩
      · exact .inr ⟨by omega, hk.2⟩
    · rcases hk2 with hk2 | hk2
      · exact hk.ltF k (.inl (.inl hk2))
      · exact hk2.2
    · rcases h3 with h3 | h3
      · exact HOFF.out k hk2 h3
      · have := HLR.out k hk2; omega
    · have hF1 : F k ∨ (w.heap.size ≤ k ∧ k < w1.heap.size) := by
        rcases hk2 with h2 | h2
        · exact h2 ▸ h1.inDb
        · exact h1.inHv k h2
      rcases hF1 with h2 | h2
      · exact h2
      · omega
end Go.Proofs.YtmldpehkacemfaaGreatDoor
namespace Go.Proofs.YtmldpehkacemfaaGreatDoor
open Go.RowKit Go.Bd
set_option maxRecDepth 100000 in
set_option maxHeartbeats 2000000 in
theorem there_any (db bm : Nat) (x y hv : Value) (w : World) (h : Holds w db 54 #[x, y, .map (some bm), hv]) :
    Calls Tryz.prog 17 #[.pointer (some ⟨db, 0, none⟩)] w fun e w' => e = .returned (.bool true) ∧ w' = w := by
  have p2 : w.cell? ⟨db, 2, none⟩ = some (.map (some bm)) := h.cell 2
  have hne := fun (m : Option Nat) (w : World) => run_neq_map_nil (P := Tryz.prog) w 51 9 69 m map_under
  clear h
  go_enter Tryz.func17, Tryz.ntmps17
  go_wp2
  all_goals (try go_ret)
  all_goals (first | exact ⟨rfl, rfl⟩ | trace_state)
end Go.Proofs.YtmldpehkacemfaaGreatDoor
namespace Go.Proofs.YtmldpehkacemfaaGreatDoor
open Go.RowKit Go.Bd
set_option maxRecDepth 100000 in
set_option maxHeartbeats 2000000 in
theorem writes_any {w : World} {F Ro : Nat → Prop} {db size bm : Nat} {es : List Fe} {hist rs : List Raw} {hv : Value} {fs : List Value} (h : DiskAt w F Ro db size es hist bm hv fs rs) :
    Calls Tryz.prog 8 #[.pointer (some ⟨db, 0, none⟩)] w fun e w' => e = .returned (.int .i64 (hist.length : Int)) ∧ w' = w := by
  obtain ⟨HA, hcp, rfl⟩ : ∃ A c, hv = .slice A hist.length c := by
    rcases h.row.2 with ⟨h1, h2⟩ | ⟨g, cap, cur, h1, _⟩
    · exact ⟨none, 0, by rw [h1, h2]⟩
    · exact ⟨_, _, h1⟩
  have ht := there_any db bm _ _ _ w h.hold
  have p3 := h.hold.cell 3
  simp at p3
  clear h
  go_enter Tryz.func8, Tryz.ntmps8
  go_wp2_with (go_at_call 17; refine ht.mono ?_; rintro e w1 ⟨rfl, rfl⟩)
  all_goals (try go_ret)
  all_goals (first | exact ⟨rfl, rfl⟩ | trace_state)
end Go.Proofs.YtmldpehkacemfaaGreatDoor
namespace Go.Proofs.YtmldpehkacemfaaGreatDoor
open Go.RowKit Go.Bd
theorem DiskAt.new {w : World} {db bm : Nat} {size : Nat} (hh : Holds w db 54 #[.int .i64 (size : Int), .int .i64 0, .map (some bm), .slice none 0 0]) (hm : FsMap w Tryz.prog 9 bm []) (hne : ¬ db = bm) {F Ro : Nat → Prop} (h1 : F db) (h2 : F bm) (hl : ∀ k, F k → k < w.heap.size) (hr : ∀ k, Ro k → k < w.heap.size) (ho : ∀ k, Ro k → ¬ F k) :
    DiskAt w F Ro db size [] [] bm (.slice none 0 0) [] [] where
  hold := hh
  map := hm
  uniq := List.Pairwise.nil
  names := fun e he => by cases he
  rows := fun e he => by cases he
  apart := List.Pairwise.nil
  row := World.ownsRow_nil _ _ _ _
  raws := ⟨rfl, fun j f r h => by simp at h⟩
  says := rfl
  inDb := h1
  inBm := h2
  inHv := fun k hk => by cases hk
  inEs := fun e he => by cases he
  offDb := ⟨hne, (fun k hk => by cases hk), (fun e he => by cases he)⟩
  ltF := hl
  ltR := hr
  off := ho
set_option maxRecDepth 100000 in
set_option maxHeartbeats 2000000 in
theorem new_any (size : Nat) (hs : size ≤ 8388608) (w : World) :
    Calls Tryz.prog 6 #[.int .i64 (size : Int)] w fun e w' => e = .returned (.tuple #[.pointer (some ⟨w.heap.size + 1, 0, none⟩), .int .i64 0]) ∧ Holds w' (w.heap.size + 1) 54 #[.int .i64 (size : Int), .int .i64 0, .map (some w.heap.size), .slice none 0 0] ∧
      FsMap w' Tryz.prog 9 w.heap.size [] ∧ Below w.heap.size w w' ∧ w'.heap.size = w.heap.size + 2 := by
  have hmm := @run_makeMap Tryz.prog
  go_enter Tryz.func6, Tryz.ntmps6
  go_wp2
  go_ret2
  have hH := Holds.new (w.alloc (.map #[] 0)) 54 #[.int .i64 (size : Int), .int .i64 0, .map (some w.heap.size), .slice none 0 0]
  rw [World.size_alloc] at hH
  exact ⟨rfl, hH, (FsMap.new w _ _).eq (Below.heap_alloc _ _ _ (by simp)), ((Below.refl _ w).alloc (Nat.le_refl _) _).alloc (by simp) _, by simp⟩
end Go.Proofs.YtmldpehkacemfaaGreatDoor
namespace Go.Proofs.YtmldpehkacemfaaGreatDoor
open Go.RowKit Go.Bd
set_option maxRecDepth 100000 in
set_option maxHeartbeats 2000000 in
theorem clone_any (q : Bs) (b off c : Nat) (w : World) (hq : q.length ≤ 1000000000000) (hc : ∀ (j : Nat) u, (u8L q)[j]? = some u → w.cell? ⟨b, off + j, none⟩ = some u) :
    Calls Tryz.prog 53 #[.slice (some ⟨b, off, none⟩) q.length c] w fun e w' => ∃ v', e = .returned v' ∧ w'.ownsRow w.heap.size 5 1 v' q.length (u8L q) ∧ v' ≠ .slice none 0 0 ∧ Below w.heap.size w w' := by
  obtain ⟨i0, hi, hz0, hz1, hz2⟩ := info_parts info_u8
  have hne : ∀ (w : World) (a : Option Addr) (n c n' c' : Nat), (binOp .eql 69 (.slice a n c) (.slice none n' c')).run Tryz.prog w = .ok (.bool a.isNone) w := fun w a n c n' c' => Lib.run_eql_slice_nil w _ _ a n c n' c' under_bytes
  have A : Hid (∀ (j : Nat) u, (u8L q)[j]? = some u → w.cell? ⟨b, off + j, none⟩ = some u) := hc
  clear hc
  go_enter Tryz.func53, Tryz.ntmps53
  go_wp2_with (at_builtin; refine wpList_append_own _ rfl _ _ 69 rfl w.heap.size 5 i0 _ 1 1 under_bytes hi hz0 hz1 hz2 rfl (by decide) _ _ _ rfl (World.ownsRow_made w #[] 0 (Nat.le_refl _) (Nat.zero_le _) (by simp)) ⟨b, off, none⟩ q.length c (u8L q) rfl (by rw [u8L_length]; omega) ?qc2 (fun u hu => u8L_one hu) (by simp only [maxLen]; omega) (by omega) (by simp) ?_)
  case qc2 =>
    intro j u hj
    rw [add_addr]
    exact ((Below.refl w.heap.size w).alloc (Nat.le_refl _) _).cell (p := ⟨b, off + j, none⟩) (World.block_lt_of_cell? w _ (A.out j u hj)) |>.trans (A.out j u hj)
  intro v' w1 ho hg hnn
  go_wp2
  go_ret
  exact ⟨_, rfl, ho, hnn, ((Below.refl _ w).alloc (Nat.le_refl _) _).grown hg (by simp) (fun k e => by cases e; exact Nat.le_refl _)⟩
set_option maxRecDepth 100000 in
set_option maxHeartbeats 2000000 in
theorem clone_empty (a : Addr) (c : Nat) (w : World) :
    Calls Tryz.prog 53 #[.slice (some a) 0 c] w fun e w' => ∃ v', e = .returned v' ∧ w'.ownsRow w.heap.size 5 1 v' 0 [] ∧ v' ≠ .slice none 0 0 ∧ Below w.heap.size w w' := by
  obtain ⟨i0, hi, hz0, hz1, hz2⟩ := info_parts info_u8
  have hne : ∀ (w : World) (a : Option Addr) (n c n' c' : Nat), (binOp .eql 69 (.slice a n c) (.slice none n' c')).run Tryz.prog w = .ok (.bool a.isNone) w := fun w a n c n' c' => Lib.run_eql_slice_nil w _ _ a n c n' c' under_bytes
  go_enter Tryz.func53, Tryz.ntmps53
  go_wp2_with (at_builtin; refine wpList_append_own _ rfl _ _ 69 rfl w.heap.size 5 i0 _ 1 1 under_bytes hi hz0 hz1 hz2 rfl (by decide) _ _ _ rfl (World.ownsRow_made w #[] 0 (Nat.le_refl _) (Nat.zero_le _) (by simp)) a 0 c [] rfl rfl (fun j u hj => by simp at hj) (fun u hu => by cases hu) (by simp only [maxLen]; omega) (by omega) (by simp) ?_)
  intro v' w1 ho hg hnn
  go_wp2
  go_ret
  exact ⟨_, rfl, ho, hnn, ((Below.refl _ w).alloc (Nat.le_refl _) _).grown hg (by simp) (fun k e => by cases e; exact Nat.le_refl _)⟩
set_option maxRecDepth 100000 in
set_option maxHeartbeats 2000000 in
theorem clone_nil (n c : Nat) (w : World) :
    Calls Tryz.prog 53 #[.slice none n c] w fun e w' => e = .returned (.slice none 0 0) ∧ w' = w := by
  have hne : ∀ (w : World) (a : Option Addr) (n c n' c' : Nat), (binOp .eql 69 (.slice a n c) (.slice none n' c')).run Tryz.prog w = .ok (.bool a.isNone) w := fun w a n c n' c' => Lib.run_eql_slice_nil w _ _ a n c n' c' under_bytes
  go_enter Tryz.func53, Tryz.ntmps53
  go_wp2
  go_ret
  exact ⟨rfl, rfl⟩
end Go.Proofs.YtmldpehkacemfaaGreatDoor
namespace Go.Proofs.YtmldpehkacemfaaGreatDoor
open Go.RowKit Go.Bd
def readB (fs : Fs) (s : ByteArray) : Bs × Nat := if nameB s then match getB fs s with | some c => (c, 0) | none => ([], 5) else ([], 1)
set_option maxRecDepth 100000 in
set_option maxHeartbeats 2000000 in
theorem read_any {w : World} {F Ro : Nat → Prop} {db size bm : Nat} {es : List Fe} {hist rs : List Raw} {hv : Value} {fs : List Value} (h : DiskAt w F Ro db size es hist bm hv fs rs) (s : ByteArray) (hs : s.size ≤ 140737488355328) (hu : usedB (fsOf es) ≤ 1000000000000) :
    Calls Tryz.prog 39 #[.pointer (some ⟨db, 0, none⟩), .string s] w fun e w' => ∃ v', e = .returned (.tuple #[v', .int .i64 ((readB (fsOf es) s).2 : Int)]) ∧ w'.ownsRow w.heap.size 5 1 v' (readB (fsOf es) s).1.length (u8L (readB (fsOf es) s).1) ∧ Below w.heap.size w w' := by
  have ht := there_any db bm _ _ hv w h.hold
  have hnm := named_any s w hs
  have p2 := h.hold.cell 2
  simp at p2
  have hl := h.map.look_ok (s := s) str_key map_under (zero_bytes w) (by simp only [maxLen]; omega)
  obtain ⟨A, c, hval, hlc⟩ := valF_form h.rows s
  have hrow := valF_row h.rows s
  have hle : ((getB (fsOf es) s).getD []).length ≤ usedB (fsOf es) := by
    have := used_del (by rw [h.says]; exact uniq_runR _ : UniqB (fsOf es)) s
    omega
  have hsome : (findF es s).isSome = (getB (fsOf es) s).isSome := by rw [getB_of]; simp
  rw [hsome] at hl
  rw [hval] at hl hrow
  clear h hsome hval
  unfold readB
  cases hb : nameB s with
  | false =>
    rw [hb] at hnm
    go_enter Tryz.func39, Tryz.ntmps39
    go_wp2_with (first
      | (go_at_call 17; refine ht.mono ?_; rintro e w1 ⟨rfl, rfl⟩)
      | (go_at_call 50; refine hnm.mono ?_; rintro e w1 ⟨rfl, rfl⟩))
    go_ret2
    exact ⟨_, rfl, World.ownsRow_nil _ _ _ _, Below.refl _ _⟩
  | true =>
    rw [hb] at hnm
    cases hg : getB (fsOf es) s with
    | none =>
      rw [hg] at hl hrow
      go_enter Tryz.func39, Tryz.ntmps39
      go_wp2_with (first
        | (go_at_call 17; refine ht.mono ?_; rintro e w1 ⟨rfl, rfl⟩)
        | (go_at_call 50; refine hnm.mono ?_; rintro e w1 ⟨rfl, rfl⟩))
      go_ret2
      exact ⟨_, rfl, World.ownsRow_nil _ _ _ _, Below.refl _ _⟩
    | some q =>
      rw [hg] at hl hrow hle
      simp only [Option.getD_some, Option.isSome_some] at hl hrow hle
      cases A with
      | none =>
        have hq0 : q.length = 0 := by
          rcases hrow.2 with ⟨_, h2⟩ | ⟨g, cap, cur, h1, _⟩
          · exact h2
          · simp at h1
        obtain rfl : q = [] := List.eq_nil_of_length_eq_zero hq0
        have hcl := clone_nil 0 c w
        go_enter Tryz.func39, Tryz.ntmps39
        go_wp2_with (first
          | (go_at_call 17; refine ht.mono ?_; rintro e w1 ⟨rfl, rfl⟩)
          | (go_at_call 50; refine hnm.mono ?_; rintro e w1 ⟨rfl, rfl⟩)
          | (go_at_call 53; refine hcl.mono ?_; rintro e w1 ⟨rfl, rfl⟩))
        go_ret2
        exact ⟨_, rfl, World.ownsRow_nil _ _ _ _, Below.refl _ _⟩
      | some a =>
        obtain ⟨g, rfl, hcells⟩ : ∃ g, a = ⟨g, 0, none⟩ ∧ ∀ (j : Nat) u, (u8L q)[j]? = some u → w.cell? ⟨g, 0 + j, none⟩ = some u := by
          have hc := hrow
          rcases hrow.2 with ⟨h1, _⟩ | ⟨g, cap, cur, h1, _⟩
          · simp at h1
          · simp at h1
            obtain ⟨rfl, _⟩ := h1
            exact ⟨g, rfl, fun j u hj => by have := hc.cells (g := g) rfl j u hj; rwa [add_addr] at this⟩
        have hcl := clone_any q g 0 c w (by omega) hcells
        clear hcells hrow
        go_enter Tryz.func39, Tryz.ntmps39
        go_wp2_with (first
          | (go_at_call 17; refine ht.mono ?_; rintro e w1 ⟨rfl, rfl⟩)
          | (go_at_call 50; refine hnm.mono ?_; rintro e w1 ⟨rfl, rfl⟩)
          | (go_at_call 53; refine hcl.mono ?_; rintro e w1 ⟨v', rfl, ho, hnn, hbl⟩))
        go_ret2
        exact ⟨_, rfl, ho, hbl⟩
end Go.Proofs.YtmldpehkacemfaaGreatDoor
namespace Go.Proofs.YtmldpehkacemfaaGreatDoor
open Go.RowKit Go.Bd Go.Shelf
attribute [local go_sem] Oper.semAt_some
abbrev Pc (L : Nat) := {i : Nat // i * 512 < L}
def encP (blk off L : Nat) (x : Pc L) : Array Value := #[.slice (some ⟨blk, off + x.1 * 512, none⟩) (min 512 (L - x.1 * 512)) (min 512 (L - x.1 * 512))]
def uptoP (L : Nat) : Nat → List (Pc L)
  | 0 => []
  | k + 1 => uptoP L k ++ (if h : k * 512 < L then [⟨k, h⟩] else [])
theorem uptoP_length (L : Nat) : ∀ k, (uptoP L k).length ≤ k
  | 0 => Nat.le_refl _
  | k + 1 => by
    unfold uptoP
    have := uptoP_length L k
    rw [List.length_append]
    split <;> simp <;> omega
theorem uptoP_succ (L k : Nat) (h : k * 512 < L) : uptoP L (k + 1) = uptoP L k ++ [⟨k, h⟩] := by
  rw [uptoP]
  simp [h]
def KeepB (b1 b2 : Nat) (W W' : World) : Prop := W'.heap[b1]? = W.heap[b1]? ∧ W'.heap[b2]? = W.heap[b2]?
theorem KeepB.trans {b1 b2 : Nat} {A B C : World} (h : KeepB b1 b2 A B) (k : KeepB b1 b2 B C) : KeepB b1 b2 A C := ⟨k.1.trans h.1, k.2.trans h.2⟩
theorem grown_drew0 (w : World) : w.grownBy w.drew none := ⟨rfl, rfl, rfl, Nat.le_refl _, fun _ _ _ => rfl⟩
set_option maxRecDepth 100000 in
set_option maxHeartbeats 2000000 in
theorem chunk1_in (F : Fence) (n : Nat) (h7 : F.fn 70) (hro : F.round = none) (hn : 1 ≤ n) (l b1 b2 blk off L c : Nat) (hL : L ≤ 1000000000000) (hc : L ≤ c) (hc2 : c ≤ 9223372036854775807) (J Jx : List (Pc L) → World → Prop)
    (hJ : ∀ s W, J s W → J s W.drew)
    (hY : ∀ pre x W, J pre W → pre.length < (L + 511) / 512 → YieldAt F (n - 1) Tryz.prog l (encP blk off L x) W fun e W' =>
      (e = .returned (.bool true) ∧ J (pre ++ [x]) W' ∧ KeepB b1 b2 W W') ∨ (e = .returned (.bool false) ∧ Jx (pre ++ [x]) W'))
    (W : World) (hB1 : W.cell? ⟨b1, 0, none⟩ = some (.slice (some ⟨blk, off, none⟩) L c)) (hB2 : W.cell? ⟨b2, 0, none⟩ = some (.int .i64 512)) (h0 : J [] W) :
    CallsIn F n Tryz.prog 70 #[.func (.yield l) #[] #[], .pointer (some ⟨b1, 0, none⟩), .pointer (some ⟨b2, 0, none⟩)] W fun e W' => (∃ v, e = .returned v) ∧
      ((∃ ys, (∃ k, ys = uptoP L k ∧ L ≤ k * 512) ∧ J ys W') ∨ (∃ pre, Jx pre W')) := by
  refine callsIn_of_wp Tryz.func70 rfl h7 ?_ hro
  simp only [Tryz.ntmps70, List.size_toArray, List.length_cons, List.length_nil, Nat.reduceAdd, Nat.reduceSub, Array.replicate_succ, Array.replicate_zero, List.push_toArray, List.append_toArray, List.nil_append, List.cons_append]
  gi_wp2
  gi_loopw [4] (fun i wr => ∃ k : Nat, k * 512 < L + 512 ∧ i = .int .i64 ((k * 512 : Nat) : Int) ∧ J (uptoP L k) wr ∧ KeepB b1 b2 W wr)
    (fun i _ => L + 512 - (intOf i).toNat)
  case atStart => exact ⟨0, by omega, rfl, h0, ⟨rfl, rfl⟩⟩
  case round =>
    obtain ⟨k, hk, rfl, hJs, hkb⟩ := hrel
    have hb1 : wr.cell? ⟨b1, 0, none⟩ = some (.slice (some ⟨blk, off, none⟩) L c) := (World.cell?_of_block (a := ⟨b1, 0, none⟩) hkb.1).trans hB1
    have hb2 : wr.cell? ⟨b2, 0, none⟩ = some (.int .i64 512) := (World.cell?_of_block (a := ⟨b2, 0, none⟩) hkb.2).trans hB2
    by_cases hlt : k * 512 < L
    · have hge : L - k * 512 ≤ c - k * 512 := by omega
      obtain ⟨fn, tmps, assign, body, hy, hR⟩ := hY _ ⟨k, hlt⟩ wr.drew (hJ _ _ hJs) (Nat.lt_of_le_of_lt (uptoP_length L k) (by omega))
      dsimp only [encP] at hy
      rcases Nat.lt_or_ge (L - k * 512) 512 with h5 | h5
      · rw [Nat.min_eq_right (by omega)] at hy
        gi_wp2
        gi_region
        all_goals gi_wp2
        all_goals (refine hR.mono ?_)
        all_goals (rintro e W3 (⟨rfl, hJ3, hk3⟩ | ⟨rfl, hJx3⟩))
        all_goals (first
          | (have hk3' : KeepB b1 b2 wr W3 := ⟨hk3.1, hk3.2⟩
             have hb21 : W3.cell? ⟨b2, 0, none⟩ = some (.int .i64 512) := (World.cell?_of_block (a := ⟨b2, 0, none⟩) hk3'.2).trans hb2
             gi_wp2
             go_roundw
             case rel => exact ⟨k + 1, by omega, by simp; omega, by rw [uptoP_succ L k hlt]; exact hJ3, hkb.trans hk3'⟩
             case measure => simp [intOf]; omega)
          | (gi_wp2
             refine bodyPost_ret (results_none rfl _ _ _) rfl ?_
             exact ⟨⟨_, rfl⟩, .inr ⟨_, hJx3⟩⟩))
      · rw [Nat.min_eq_left (by omega)] at hy
        gi_wp2
        gi_region
        all_goals gi_wp2
        all_goals (refine hR.mono ?_)
        all_goals (rintro e W3 (⟨rfl, hJ3, hk3⟩ | ⟨rfl, hJx3⟩))
        all_goals (first
          | (have hk3' : KeepB b1 b2 wr W3 := ⟨hk3.1, hk3.2⟩
             have hb21 : W3.cell? ⟨b2, 0, none⟩ = some (.int .i64 512) := (World.cell?_of_block (a := ⟨b2, 0, none⟩) hk3'.2).trans hb2
             gi_wp2
             go_roundw
             case rel => exact ⟨k + 1, by omega, by simp; omega, by rw [uptoP_succ L k hlt]; exact hJ3, hkb.trans hk3'⟩
             case measure => simp [intOf]; omega)
          | (gi_wp2
             refine bodyPost_ret (results_none rfl _ _ _) rfl ?_
             exact ⟨⟨_, rfl⟩, .inr ⟨_, hJx3⟩⟩))
    · gi_wp2
      go_end0
      exact ⟨⟨_, rfl⟩, .inl ⟨_, ⟨k, rfl, by omega⟩, hJs⟩⟩
end Go.Proofs.YtmldpehkacemfaaGreatDoor
namespace Go.Proofs.YtmldpehkacemfaaGreatDoor
open Go.RowKit Go.Bd Go.Shelf
attribute [local go_sem] Oper.semAt_some
set_option maxRecDepth 100000 in
set_option maxHeartbeats 2000000 in
theorem chunk_any (A : Option Addr) (L c : Nat) (w : World) :
    Calls Tryz.prog 52 #[.slice A L c, .int .i64 512] w fun e w' => e = .returned (.func (.func 70) #[] #[.pointer (some ⟨w.heap.size, 0, none⟩), .pointer (some ⟨w.heap.size + 1, 0, none⟩)]) ∧ w' = (w.alloc (.cells #[.slice A L c] 69)).alloc (.cells #[.int .i64 512] 3) := by
  go_enter Tryz.func52, Tryz.ntmps52
  go_wp2
  go_ret
  exact ⟨by simp, rfl⟩
set_option maxRecDepth 100000 in
set_option maxHeartbeats 2000000 in
theorem chunk1_none (F : Fence) (n : Nat) (h7 : F.fn 70) (hro : F.round = none) (l b1 b2 c : Nat) (A : Option Addr) {α : Type} (J : List α → World → Prop) (W : World) (hB1 : W.cell? ⟨b1, 0, none⟩ = some (.slice A 0 c)) (h0 : J [] W) :
    CallsIn F n Tryz.prog 70 #[.func (.yield l) #[] #[], .pointer (some ⟨b1, 0, none⟩), .pointer (some ⟨b2, 0, none⟩)] W fun e W' => (∃ v, e = .returned v) ∧ J [] W' := by
  refine callsIn_of_wp Tryz.func70 rfl h7 ?_ hro
  simp only [Tryz.ntmps70, List.size_toArray, List.length_cons, List.length_nil, Nat.reduceAdd, Nat.reduceSub, Array.replicate_succ, Array.replicate_zero, List.push_toArray, List.append_toArray, List.nil_append, List.cons_append]
  gi_wp2
  gi_loopw [4] (fun i wr => i = .int .i64 0 ∧ J [] wr ∧ wr.cell? ⟨b1, 0, none⟩ = some (.slice A 0 c)) (fun _ _ => 0)
  case atStart => exact ⟨rfl, h0, hB1⟩
  case round =>
    obtain ⟨rfl, hJs, hb⟩ := hrel
    gi_wp2
    go_end0
    exact ⟨⟨_, rfl⟩, hJs⟩
theorem chunk_stops (F : Fence) (n : Nat) (h7 : F.fn 70) (hro : F.round = none) (hn : 1 ≤ n) (b1 b2 blk off L c : Nat) (A : Option Addr) (hA : L ≠ 0 → A = some ⟨blk, off, none⟩) (hL : L ≤ 1000000000000) (hc : L ≤ c) (hc2 : c ≤ 9223372036854775807)
    (w : World) (hB1 : w.cell? ⟨b1, 0, none⟩ = some (.slice A L c)) (hB2 : w.cell? ⟨b2, 0, none⟩ = some (.int .i64 512)) :
    SeqStopsK F n Tryz.prog 70 #[.pointer (some ⟨b1, 0, none⟩), .pointer (some ⟨b2, 0, none⟩)] (encP blk off L) (KeepB b1 b2) (fun ys => ∃ k, ys = uptoP L k ∧ L ≤ k * 512) (fun _ => True) ((L + 511) / 512) w := fun l J Jx W hW hJ _ hY h0 => by
  have h1 := (hW.cell (p := ⟨b1, 0, none⟩) (World.block_lt_of_cell? w _ hB1)).trans hB1
  have h2 := (hW.cell (p := ⟨b2, 0, none⟩) (World.block_lt_of_cell? w _ hB2)).trans hB2
  by_cases hz : L = 0
  · subst hz
    exact (chunk1_none F n h7 hro l b1 b2 c A J W h1 h0).mono fun e W' ⟨he, hj⟩ => ⟨he, .inl ⟨[], ⟨0, rfl, Nat.zero_le _⟩, hj⟩⟩
  · obtain rfl := hA hz
    refine (chunk1_in F n h7 hro hn l b1 b2 blk off L c hL hc hc2 J Jx (fun s W hs => hJ s W _ none hs (grown_drew0 W) (fun r e => by cases e)) hY W h1 h2 h0).mono ?_
    rintro e W' ⟨he, ⟨ys, hk, hj⟩ | ⟨pre, hj⟩⟩
    · exact ⟨he, .inl ⟨ys, hk, hj⟩⟩
    · exact ⟨he, .inr ⟨pre, trivial, hj⟩⟩
end Go.Proofs.YtmldpehkacemfaaGreatDoor
namespace Go.Bd
open Go.RowKit
def Raw.bytes : Raw → Nat
  | .empty _ => 0
  | .behind _ b => b.length
  | .gone _ => 0
theorem del_len (fs : Fs) (s : ByteArray) : (delB fs s).length ≤ fs.length := List.length_filter_le _ _
theorem app_len (r : Raw) (fs : Fs) : (r.app fs).length ≤ fs.length + 1 := by
  cases r with
  | empty n => have := del_len fs n; simp only [Raw.app, setB, List.length_append, List.length_singleton]; omega
  | behind n b => have := del_len fs n; simp only [Raw.app, setB, List.length_append, List.length_singleton]; omega
  | gone n => have := del_len fs n; simp only [Raw.app]; omega
theorem app_used (r : Raw) {fs : Fs} (h : UniqB fs) : usedB (r.app fs) ≤ usedB fs + r.bytes := by
  cases r with
  | empty n => have := used_set h n []; simp only [Raw.app, Raw.bytes, List.length_nil] at *; omega
  | behind n b => have := used_set h n ((getB fs n).getD [] ++ b); simp only [Raw.app, Raw.bytes, List.length_append] at *; omega
  | gone n => have := used_del h n; simp only [Raw.app, Raw.bytes] at *; omega
theorem runR_len (h : List Raw) : (runR h).length ≤ h.length := by
  suffices ∀ (h : List Raw) (fs : Fs), (h.foldl (fun fs r => r.app fs) fs).length ≤ fs.length + h.length by have := this h []; unfold runR; simpa using this
  intro h
  induction h with
  | nil => intro fs; simp
  | cons r h ih =>
    intro fs
    have h1 := ih (r.app fs)
    have h2 := app_len r fs
    rw [List.foldl_cons, List.length_cons]
    omega
theorem runR_used (h : List Raw) (hb : ∀ r ∈ h, r.bytes ≤ 512) : usedB (runR h) ≤ 512 * h.length := by
  suffices ∀ (h : List Raw) (fs : Fs), UniqB fs → (∀ r ∈ h, r.bytes ≤ 512) → usedB (h.foldl (fun fs r => r.app fs) fs) ≤ usedB fs + 512 * h.length by have := this h [] List.Pairwise.nil hb; unfold runR; simpa [usedB] using this
  clear hb
  intro h
  induction h with
  | nil => intro fs _ _; simp
  | cons r h ih =>
    intro fs hu hb
    have h1 := ih (r.app fs) (uniq_app r hu) (fun x hx => hb x (List.mem_cons_of_mem _ hx))
    have h2 := app_used r hu
    have h3 := hb r (List.mem_cons_self ..)
    rw [List.foldl_cons, List.length_cons]
    omega
def IsC (w : World) (k : Nat) : Prop := ∃ o : Obj, w.heap[k]? = some o ∧ o.isCells = true
theorem isC_holds {w : World} {b : Nat} {t : TypeId} {cs : Array Value} (h : Holds w b t cs) : IsC w b := ⟨_, h, rfl⟩
theorem isC_owns {w : World} {base n sz k : Nat} {e : TypeId} {v : Value} {xs : List Value} (h : w.ownsRow base e sz v n xs) (hk : v.ownBlock = some k) : IsC w k := by
  rcases h.2 with ⟨h1, _⟩ | ⟨g, cap, cur, h1, _, hh, _⟩
  · rw [h1] at hk; cases hk
  · rw [h1] at hk
    injection hk with hk
    subst hk
    exact ⟨_, hh, rfl⟩
theorem isC_cell {w : World} {p : Addr} {v : Value} (h : w.cell? p = some v) : IsC w p.block := cells_of_cell h
theorem IsC.chg {w w' : World} {S : Nat → Prop} {k : Nat} (h : IsC w k) (hc : Chg w w' S) (hS : ¬ S k) : IsC w' k := by
  obtain ⟨o, h1, h2⟩ := h
  exact ⟨o, (hc.block k (Array.getElem?_eq_some_iff.1 h1).1 hS).trans h1, h2⟩
end Go.Bd
namespace Go.Proofs.YtmldpehkacemfaaGreatDoor
open Go.RowKit Go.Bd
theorem RawAt.cells {w : World} {Ro : Nat → Prop} {f : Value} {r : Raw} (h : RawAt w Ro f r) : RawAt w (fun k => Ro k ∧ IsC w k) f r := by
  cases r with
  | empty n =>
    obtain ⟨b, h1, h2, h3, h4⟩ := h
    exact ⟨b, ⟨h1, isC_holds h3⟩, h2, h3, h4⟩
  | gone n =>
    obtain ⟨b, h1, h2, h3, h4⟩ := h
    exact ⟨b, ⟨h1, isC_holds h3⟩, h2, h3, h4⟩
  | behind n c =>
    obtain ⟨bb, bn, blk, off, cap, h1, h2, h3, h4, h5, h6, h7, h8, h9⟩ := h
    have hb : IsC w blk := by
      obtain ⟨u, hu⟩ : ∃ u, (u8L c)[0]? = some u := ⟨_, List.getElem?_eq_getElem (by rw [u8L_length]; exact h8.1)⟩
      exact isC_cell (p := ⟨blk, off + 0, none⟩) (h9 0 u hu)
    exact ⟨bb, bn, blk, off, cap, ⟨h1, isC_holds h5⟩, ⟨h2, isC_holds h6⟩, ⟨h3, hb⟩, h4, h5, h6, h7, h8, h9⟩
theorem RawAt.le {w : World} {Ro : Nat → Prop} {f : Value} {r : Raw} (h : RawAt w Ro f r) : r.bytes ≤ 512 := by
  cases r with
  | empty n => exact Nat.zero_le _
  | gone n => exact Nat.zero_le _
  | behind n c =>
    obtain ⟨bb, bn, blk, off, cap, _, _, _, _, _, _, _, h8, _⟩ := h
    exact h8.2
theorem RawsAt.le {w : World} {Ro : Nat → Prop} {fs : List Value} {rs : List Raw} (h : RawsAt w Ro fs rs) : ∀ r ∈ rs, r.bytes ≤ 512 := by
  intro r hr
  obtain ⟨j, hj, rfl⟩ := List.mem_iff_getElem.1 hr
  exact (h.2 j _ _ (List.getElem?_eq_getElem (by rw [h.1]; exact hj)) (List.getElem?_eq_getElem hj)).le
section
variable {w w' : World} {F F' Ro Ro' : Nat → Prop} {db size bm : Nat} {es : List Fe} {hist rs : List Raw} {hv : Value} {fs : List Value}
theorem DiskAt.min (h : DiskAt w F Ro db size es hist bm hv fs rs) : DiskAt w (fun k => F k ∧ (k = bm ∨ IsC w k)) (fun k => Ro k ∧ IsC w k) db size es hist bm hv fs rs :=
  { h with
    raws := ⟨h.raws.1, fun j f r h1 h2 => (h.raws.2 j f r h1 h2).cells⟩
    inDb := ⟨h.inDb, .inr (isC_holds h.hold)⟩
    inBm := ⟨h.inBm, .inl rfl⟩
    inHv := fun k hk => ⟨h.inHv k hk, .inr (isC_owns h.row hk)⟩
    inEs := fun e he k hk => ⟨h.inEs e he k hk, .inr (isC_owns (h.rows e he) hk)⟩
    ltF := fun k hk => h.ltF k hk.1
    ltR := fun k hk => h.ltR k hk.1
    off := fun k hk h2 => h.off k hk.1 h2.1 }
theorem DiskAt.ro (h : DiskAt w F Ro db size es hist bm hv fs rs) (hR : ∀ k, Ro k → Ro' k) (hl : ∀ k, Ro' k → k < w.heap.size) (ho : ∀ k, Ro' k → ¬ F k) : DiskAt w F Ro' db size es hist bm hv fs rs :=
  { h with
    raws := h.raws.chg (Chg.refl w (fun _ => False)) hR (fun _ _ h => h)
    ltR := hl
    off := ho }
theorem DiskAt.len_le (h : DiskAt w F Ro db size es hist bm hv fs hist) : es.length ≤ hist.length := by
  have := runR_len hist
  rw [← h.says] at this
  simpa [fsOf] using this
theorem DiskAt.used_le (h : DiskAt w F Ro db size es hist bm hv fs hist) : usedB (fsOf es) ≤ 512 * hist.length := by
  rw [h.says]
  exact runR_used hist h.raws.le
end
end Go.Proofs.YtmldpehkacemfaaGreatDoor
namespace Go.Proofs.YtmldpehkacemfaaGreatDoor
open Go.RowKit Go.Bd Go.Shelf
def pieceAt (q : Bs) (x : Nat) : Bs := (q.drop (x * 512)).take 512
theorem pieceAt_length (q : Bs) (x : Nat) : (pieceAt q x).length = min 512 (q.length - x * 512) := by unfold pieceAt; simp
theorem piece_cells {w : World} {g x : Nat} {q : Bs} (h : ∀ (j : Nat) u, (u8L q)[j]? = some u → w.cell? ⟨g, 0 + j, none⟩ = some u) : ∀ (j : Nat) u, (u8L (pieceAt q x))[j]? = some u → w.cell? ⟨g, x * 512 + j, none⟩ = some u := by
  intro j u hj
  have h2 := h (x * 512 + j) u ?_
  · rwa [Nat.zero_add] at h2
  · unfold u8L pieceAt at *
    rw [List.map_take, List.map_drop, List.getElem?_take] at hj
    split at hj
    · rwa [List.getElem?_drop] at hj
    · cases hj
def histP (hist : List Raw) (s : ByteArray) (q : Bs) (pre : List (Pc q.length)) : List Raw := hist ++ [.empty s] ++ pre.map (fun x => .behind s (pieceAt q x.1))
theorem histP_nil (hist : List Raw) (s : ByteArray) (q : Bs) : histP hist s q [] = hist ++ [.empty s] := by unfold histP; simp
theorem histP_snoc (hist : List Raw) (s : ByteArray) (q : Bs) (pre : List (Pc q.length)) (x : Pc q.length) : histP hist s q (pre ++ [x]) = histP hist s q pre ++ [.behind s (pieceAt q x.1)] := by unfold histP; simp
theorem histP_length (hist : List Raw) (s : ByteArray) (q : Bs) (pre : List (Pc q.length)) : (histP hist s q pre).length = hist.length + 1 + pre.length := by unfold histP; simp; omega
structure WrD (F Ro : Nat → Prop) (B b3 : Nat) (X : Nat → Prop) (db size bm g : Nat) (q : Bs) (hist : List Raw) (W : World) (F1 Ro1 : Nat → Prop) (es1 : List Fe) (hv1 : Value) (fs1 : List Value) : Prop where
  disk : DiskAt W F1 Ro1 db size es1 hist bm hv1 fs1 hist
  inF : ∀ k, F1 k → F k ∨ b3 ≤ k
  inR : ∀ k, Ro1 k → Ro k ∨ b3 ≤ k
  isF : ∀ k, F1 k → k < B ∨ IsC W k
  isR : ∀ k, Ro1 k → k < B ∨ IsC W k
  off : ∀ k, X k → ¬ F1 k
  inG : q.length ≠ 0 → Ro1 g
structure WrI (w : World) (F Ro : Nat → Prop) (B b3 : Nat) (X : Nat → Prop) (db size bm g : Nat) (s : ByteArray) (q : Bs) (hist : List Raw) (pre : List (Pc q.length)) (W : World) : Prop where
  ex : ∃ F1 Ro1 es1 hv1 fs1, WrD F Ro B b3 X db size bm g q (histP hist s q pre) W F1 Ro1 es1 hv1 fs1
  c3 : W.cell? ⟨b3, 0, none⟩ = some (.pointer (some ⟨db, 0, none⟩))
  c4 : W.cell? ⟨b3 + 1, 0, none⟩ = some (.string s)
  cg : ∀ (j : Nat) u, (u8L q)[j]? = some u → W.cell? ⟨g, 0 + j, none⟩ = some u
  chg : Chg w W F
  size : B ≤ W.heap.size
theorem WrI.own {w : World} {F Ro : Nat → Prop} {B b3 : Nat} {X : Nat → Prop} {db size bm g : Nat} {s : ByteArray} {q : Bs} {hist : List Raw} (hB : w.heap.size ≤ B) : OwnFrom B (WrI w F Ro B b3 X db size bm g s q hist) := by
  intro pre W W' row h hg hr
  obtain ⟨F1, Ro1, es1, hv1, fs1, hd⟩ := h.ex
  have hc : Chg W W' (fun k => some k = row) := Chg.grown hg
  have hn : ∀ k, (k < B ∨ IsC W k) → ¬ some k = row := fun k hk e => by
    obtain ⟨h1, o, h2, h3⟩ := hr k e.symm
    rcases hk with hk | ⟨o', h4, h5⟩
    · omega
    · rw [h2] at h4
      injection h4 with h4
      subst h4
      rw [h3] at h5
      cases h5
  have hs := hg.size
  refine ⟨⟨F1, Ro1, es1, hv1, fs1, ?_⟩, cell_kept h.c3 hg (fun r e => (hr r e).2), cell_kept h.c4 hg (fun r e => (hr r e).2), fun j u hu => cell_kept (h.cg j u hu) hg (fun r e => (hr r e).2), h.chg.trans hc (fun k hk e => ?_), Nat.le_trans h.size hs⟩
  · exact ⟨hd.disk.chg (F' := F1) (Ro' := Ro1) hc (fun k hk => hn k (hd.isF k hk)) (fun k hk => hn k (hd.isR k hk)), hd.inF, hd.inR, fun k hk => (hd.isF k hk).imp_right (fun h => h.chg hc (hn k (hd.isF k hk))), fun k hk => (hd.isR k hk).imp_right (fun h => h.chg hc (hn k (hd.isR k hk))), hd.off, hd.inG⟩
  · have := (hr k e.symm).1
    omega
theorem WrD.of {W : World} {F Ro F1 Ro1 : Nat → Prop} {B b3 : Nat} {X : Nat → Prop} {db size bm g : Nat} {q : Bs} {hist : List Raw} {es1 : List Fe} {hv1 : Value} {fs1 : List Value} (h : DiskAt W F1 Ro1 db size es1 hist bm hv1 fs1 hist) (hbm : bm < B) (h1 : ∀ k, F1 k → F k ∨ b3 ≤ k) (h2 : ∀ k, Ro1 k → Ro k ∨ b3 ≤ k) (h3 : ∀ k, X k → ¬ F1 k) (h4 : q.length ≠ 0 → Ro1 g) (hg : ∀ (j : Nat) u, (u8L q)[j]? = some u → W.cell? ⟨g, 0 + j, none⟩ = some u) :
    WrD F Ro B b3 X db size bm g q hist W (fun k => F1 k ∧ (k = bm ∨ IsC W k)) (fun k => Ro1 k ∧ IsC W k) es1 hv1 fs1 where
  disk := h.min
  inF := fun k hk => h1 k hk.1
  inR := fun k hk => h2 k hk.1
  isF := fun k hk => by
    rcases hk.2 with rfl | h
    · exact .inl hbm
    · exact .inr h
  isR := fun k hk => .inr hk.2
  off := fun k hk hf => h3 k hk hf.1
  inG := fun hq => ⟨h4 hq, by
    obtain ⟨u, hu⟩ : ∃ u, (u8L q)[0]? = some u := ⟨_, List.getElem?_eq_getElem (by rw [u8L_length]; omega)⟩
    exact isC_cell (p := ⟨g, 0 + 0, none⟩) (hg 0 u hu)⟩
theorem WrD.keeps {W W' : World} {F Ro F1 Ro1 : Nat → Prop} {B b3 : Nat} {X : Nat → Prop} {db size bm g : Nat} {q : Bs} {hist : List Raw} {es1 : List Fe} {hv1 : Value} {fs1 : List Value} (h : WrD F Ro B b3 X db size bm g q hist W F1 Ro1 es1 hv1 fs1) (hc : Chg W W' F1) : KeepsFrom B W W' :=
  ⟨hc.size, fun k o hB hk ho => (hc.block k (Array.getElem?_eq_some_iff.1 hk).1 (fun hf => by
    rcases h.isF k hf with h1 | ⟨o', h1, h2⟩
    · omega
    · rw [hk] at h1
      injection h1 with h1
      subst h1
      rw [ho] at h2
      cases h2)).trans hk⟩
theorem wr_raw {W W2 : World} {F Ro F1 Ro1 : Nat → Prop} {B b3 : Nat} {X : Nat → Prop} {db size bm g : Nat} {q : Bs} {hist : List Raw} {es1 : List Fe} {hv1 : Value} {fs1 : List Value} {f : Value} {r : Raw} (h : WrD F Ro B b3 X db size bm g q hist W F1 Ro1 es1 hv1 fs1)
    (hra : RawAt W2 (fun k => Ro1 k ∨ (W.drew.heap.size ≤ k ∧ k < W2.heap.size)) f r) (hbl : Below W.drew.heap.size W.drew W2) (hh : hist.length ≤ 900000) :
    Calls Tryz.prog 40 #[.pointer (some ⟨db, 0, none⟩), f] W2 fun e w' => (∃ v, e = .returned v) ∧ ∃ es' hv', DiskAt w' (fun k => F1 k ∨ (W2.heap.size ≤ k ∧ k < w'.heap.size)) (fun k => Ro1 k ∨ (W.drew.heap.size ≤ k ∧ k < W2.heap.size)) db size es' (hist ++ [r]) bm hv' (fs1 ++ [f]) (hist ++ [r]) ∧ Chg W2 w' F1 := by
  have hc2 : Chg W W2 (fun _ => False) := ((Chg.refl W (fun _ => False)).drew).trans (Chg.below hbl (fun _ => False)) (fun _ _ h => h)
  have hD2 := h.disk.chg (F' := F1) (Ro' := Ro1) hc2 (fun _ _ h => h) (fun _ _ h => h)
  have hsz := hc2.size
  have hD3 := hD2.ro (Ro' := fun k => Ro1 k ∨ (W.drew.heap.size ≤ k ∧ k < W2.heap.size)) (fun _ h => .inl h) (fun k hk => by
    rcases hk with hk | hk
    · exact hD2.ltR k hk
    · exact hk.2) (fun k hk hf => by
    rcases hk with hk | hk
    · exact hD2.off k hk hf
    · have h1 := h.disk.ltF k hf
      have h2 : W.heap.size ≤ k := hk.1
      omega)
  have hel := h.disk.len_le
  have hus := h.disk.used_le
  exact raw_any hD3 hra (by omega) (by omega) (by omega)
theorem wr_next {w W W2 W3 : World} {F Ro F1 Ro1 : Nat → Prop} {B b3 : Nat} {X : Nat → Prop} {db size bm g : Nat} {s : ByteArray} {q : Bs} {hist : List Raw} {pre : List (Pc q.length)} {x : Pc q.length} {es1 es3 : List Fe} {hv1 hv3 : Value} {fs1 fs3 : List Value}
    (hI : WrI w F Ro B b3 X db size bm g s q hist pre W) (h : WrD F Ro B b3 X db size bm g q (histP hist s q pre) W F1 Ro1 es1 hv1 fs1) (hc2 : Chg W W2 (fun _ => False)) (hc3 : Chg W2 W3 F1) (hX3 : ¬ F1 b3) (hX4 : ¬ F1 (b3 + 1)) (hbm : bm < B) (hwB : b3 ≤ B) (hXB : ∀ k, X k → k < B) (hbw : w.heap.size = b3)
    (hD : DiskAt W3 (fun k => F1 k ∨ (W2.heap.size ≤ k ∧ k < W3.heap.size)) (fun k => Ro1 k ∨ (W.drew.heap.size ≤ k ∧ k < W2.heap.size)) db size es3 (histP hist s q pre ++ [.behind s (pieceAt q x.1)]) bm hv3 fs3 (histP hist s q pre ++ [.behind s (pieceAt q x.1)])) :
    KeepsFrom B W W3 ∧ (∀ k, X k → W3.heap[k]? = W.heap[k]?) ∧ WrI w F Ro B b3 X db size bm g s q hist (pre ++ [x]) W3 := by
  have hc : Chg W W3 F1 := (hc2.mono (T := F1) (fun _ _ h => h.elim)).trans hc3 (fun _ _ h => h)
  have hs1 := hI.size
  have hs2 := hc2.size
  have hg : ∀ (j : Nat) u, (u8L q)[j]? = some u → W3.cell? ⟨g, 0 + j, none⟩ = some u := fun j u hu => by
    refine hc.cell (p := ⟨g, 0 + j, none⟩) ?_ (hI.cg j u hu)
    have hq : q.length ≠ 0 := fun e => by
      rw [List.eq_nil_of_length_eq_zero e] at hu
      simp [u8L] at hu
    exact h.disk.off g (h.inG hq)
  refine ⟨h.keeps hc, fun k hk => hc.block k (by have := hXB k hk; omega) (h.off k hk), ⟨_, _, _, _, _, WrD.of (histP_snoc hist s q pre x ▸ hD) hbm (fun k hk => ?_) (fun k hk => ?_) (fun k hk hf => ?_) (fun hq => .inl (h.inG hq)) hg⟩, hc.cell (p := ⟨b3, 0, none⟩) hX3 hI.c3, hc.cell (p := ⟨b3 + 1, 0, none⟩) hX4 hI.c4, hg, hI.chg.trans hc (fun k hk hf => ?_), Nat.le_trans hI.size hc.size⟩
  · rcases hk with hk | hk
    · exact h.inF k hk
    · exact .inr (by omega)
  · rcases hk with hk | hk
    · exact h.inR k hk
    · have h2 : W.heap.size ≤ k := hk.1
      exact .inr (by omega)
  · rcases hf with hf | hf
    · exact h.off k hk hf
    · have := hXB k hk; omega
  · rcases h.inF k hf with h1 | h1
    · exact h1
    · omega
end Go.Proofs.YtmldpehkacemfaaGreatDoor
namespace Go.Proofs.YtmldpehkacemfaaGreatDoor
open Go.RowKit Go.Bd
set_option maxRecDepth 100000 in
set_option maxHeartbeats 2000000 in
theorem empty_any (s : ByteArray) (w : World) (hs : s.size ≤ 80) :
    Calls Tryz.prog 51 #[.string s] w fun e w' => ∃ f, e = .returned f ∧ RawAt w' (fun k => w.heap.size ≤ k ∧ k < w'.heap.size) f (.empty s) ∧ Below w.heap.size w w' := by
  go_enter Tryz.func51, Tryz.ntmps51
  go_wp2
  go_ret
  exact ⟨_, rfl, ⟨_, ⟨Nat.le_refl _, by simp⟩, rfl, Holds.new _ _ _, hs⟩, (Below.refl _ w).alloc (Nat.le_refl _) _⟩
set_option maxRecDepth 100000 in
set_option maxHeartbeats 2000000 in
theorem gone_any (s : ByteArray) (w : World) (hs : s.size ≤ 80) :
    Calls Tryz.prog 62 #[.string s] w fun e w' => ∃ f, e = .returned f ∧ RawAt w' (fun k => w.heap.size ≤ k ∧ k < w'.heap.size) f (.gone s) ∧ Below w.heap.size w w' := by
  go_enter Tryz.func62, Tryz.ntmps62
  go_wp2
  go_ret
  exact ⟨_, rfl, ⟨_, ⟨Nat.le_refl _, by simp⟩, rfl, Holds.new _ _ _, hs⟩, (Below.refl _ w).alloc (Nat.le_refl _) _⟩
set_option maxRecDepth 100000 in
set_option maxHeartbeats 2000000 in
theorem behind_any (s : ByteArray) (q : Bs) (blk off cap : Nat) (w : World) (Ro : Nat → Prop) (hs : s.size ≤ 80) (hq : 0 < q.length ∧ q.length ≤ 512) (hb : Ro blk) (hc : ∀ (j : Nat) u, (u8L q)[j]? = some u → w.cell? ⟨blk, off + j, none⟩ = some u) :
    Calls Tryz.prog 54 #[.string s, .slice (some ⟨blk, off, none⟩) q.length cap] w fun e w' => ∃ f, e = .returned f ∧ RawAt w' (fun k => Ro k ∨ (w.heap.size ≤ k ∧ k < w'.heap.size)) f (.behind s q) ∧ Below w.heap.size w w' := by
  have HC := Lib.hid hc
  clear hc
  go_enter Tryz.func54, Tryz.ntmps54
  go_wp2
  go_ret
  have hbl := ((Below.refl w.heap.size w).alloc (Nat.le_refl _) (.cells #[.string s] 9)).alloc (by simp) (.cells #[.slice (some ⟨blk, off, none⟩) q.length cap] 69)
  exact ⟨_, rfl, ⟨w.heap.size + 1, w.heap.size, blk, off, cap, .inr ⟨by omega, by simp⟩, .inr ⟨Nat.le_refl _, by simp; omega⟩, .inl hb, by simp, by have := Holds.new (w.alloc (.cells #[.string s] 9)) 69 #[.slice (some ⟨blk, off, none⟩) q.length cap]; simpa using this, (Holds.new w _ _).alloc _, hs, hq, fun j u hu => hbl.cell (p := ⟨blk, off + j, none⟩) (World.block_lt_of_cell? w _ (HC.out j u hu)) |>.trans (HC.out j u hu)⟩, hbl⟩
set_option maxRecDepth 100000 in
set_option maxHeartbeats 2000000 in
theorem there_nil (w : World) :
    Calls Tryz.prog 17 #[.pointer none] w fun e w' => e = .returned (.bool false) ∧ w' = w := by
  go_enter Tryz.func17, Tryz.ntmps17
  go_wp2
  go_ret
  exact ⟨rfl, rfl⟩
end Go.Proofs.YtmldpehkacemfaaGreatDoor
namespace Go.Proofs.YtmldpehkacemfaaGreatDoor
open Go.RowKit Go.Bd Go.Shelf
attribute [local go_sem] Oper.semAt_some
def noP (Q : Exit → Act → World → Prop) : Exit → Act → World → Prop
  | .panic _, _, _ => False
  | .normal, a, w => Q .normal a w
  | .ret, a, w => Q .ret a w
  | .exit id, a, w => Q (.exit id) a w
  | .goto t, a, w => Q (.goto t) a w
  | .outgrown, a, w => Q .outgrown a w
theorem noP_mono (Q : Exit → Act → World → Prop) : ∀ (e : Exit) (a : Act) (w : World), noP Q e a w → Q e a w
  | .panic _, _, _, h => h.elim
  | .normal, _, _, h => h
  | .ret, _, _, h => h
  | .exit _, _, _, h => h
  | .goto _, _, _, h => h
  | .outgrown, _, _, h => h
def writeE (fs : Fs) (size : Nat) (s : ByteArray) (q : Bs) : Nat :=
  if nameB s then if (getB fs s).isNone ∧ 256 ≤ fs.length then 6 else if (q.length : Int) > (size : Int) - ((usedB fs : Int) - (((getB fs s).getD []).length : Int)) then 6 else 0 else 1
def chunksB (q : Bs) : List Bs := (List.range ((q.length + 511) / 512)).map (pieceAt q)
def rawsW (fs : Fs) (size : Nat) (s : ByteArray) (q : Bs) : List Raw := if writeE fs size s q = 0 then .empty s :: (chunksB q).map (.behind s) else []
theorem uptoP_vals (L : Nat) : ∀ k, (uptoP L k).map (·.1) = List.range (min k ((L + 511) / 512))
  | 0 => by simp [uptoP]
  | k + 1 => by
    rw [uptoP, List.map_append, uptoP_vals L k]
    by_cases h : k * 512 < L
    · rw [dif_pos h]
      have h1 : min k ((L + 511) / 512) = k := by omega
      have h2 : min (k + 1) ((L + 511) / 512) = k + 1 := by omega
      rw [h1, h2, List.range_succ]
      rfl
    · rw [dif_neg h]
      have h1 : min k ((L + 511) / 512) = (L + 511) / 512 := by omega
      have h2 : min (k + 1) ((L + 511) / 512) = (L + 511) / 512 := by omega
      rw [h1, h2]
      simp
theorem uptoP_all {q : Bs} {k : Nat} (h : q.length ≤ k * 512) (s : ByteArray) : (uptoP q.length k).map (fun x => Raw.behind s (pieceAt q x.1)) = (chunksB q).map (.behind s) := by
  have h1 := uptoP_vals q.length k
  have h2 : min k ((q.length + 511) / 512) = (q.length + 511) / 512 := by omega
  rw [h2] at h1
  unfold chunksB
  rw [← h1, List.map_map, List.map_map]
  rfl
def InB (w : World) (F : Nat → Prop) (A : Option Addr) (q : Bs) : Prop := q = [] ∨ ∃ blk off, A = some ⟨blk, off, none⟩ ∧ ¬ F blk ∧ ∀ (j : Nat) u, (u8L q)[j]? = some u → w.cell? ⟨blk, off + j, none⟩ = some u
theorem InB.chg {w w' : World} {F : Nat → Prop} {A : Option Addr} {q : Bs} (h : InB w F A q) (hc : Chg w w' F) : InB w' F A q := by
  rcases h with h | ⟨blk, off, h1, h2, h3⟩
  · exact .inl h
  · exact .inr ⟨blk, off, h1, h2, fun j u hu => hc.cell (p := ⟨blk, off + j, none⟩) h2 (h3 j u hu)⟩
theorem clone_all {w : World} {F : Nat → Prop} {A : Option Addr} {q : Bs} (h : InB w F A q) (c : Nat) (hq : q.length ≤ 1000000000000) :
    Calls Tryz.prog 53 #[.slice A q.length c] w fun e w' => ∃ A' c' g, e = .returned (.slice A' q.length c') ∧ q.length ≤ c' ∧ c' ≤ 9223372036854775807 ∧ (q.length ≠ 0 → A' = some ⟨g, 0, none⟩) ∧ (q.length ≠ 0 → w.heap.size ≤ g ∧ g < w'.heap.size) ∧ (∀ (j : Nat) u, (u8L q)[j]? = some u → w'.cell? ⟨g, 0 + j, none⟩ = some u) ∧ Below w.heap.size w w' := by
  rcases h with rfl | ⟨blk, off, rfl, _, hc⟩
  · cases A with
    | none =>
      refine (clone_nil 0 c w).mono ?_
      rintro e w' ⟨rfl, rfl⟩
      exact ⟨none, 0, 0, rfl, Nat.le_refl _, Nat.zero_le _, fun h => absurd rfl h, fun h => absurd rfl h, fun j u h => by simp [u8L] at h, Below.refl _ _⟩
    | some a =>
      refine (clone_empty a c w).mono ?_
      rintro e w' ⟨v', rfl, ho, _, hb⟩
      obtain ⟨A', cap, hv, _, hm⟩ : ∃ A' cap, v' = .slice A' 0 cap ∧ 0 ≤ cap ∧ cap ≤ maxLen := by
        rcases ho.2 with ⟨h1, _⟩ | ⟨g, cap, cur, h1, _, _, _, h5, _⟩
        · exact ⟨none, 0, h1, Nat.le_refl _, Nat.zero_le _⟩
        · exact ⟨_, cap, h1, Nat.zero_le _, h5⟩
      exact ⟨A', cap, 0, by rw [hv]; rfl, Nat.zero_le _, by simpa only [maxLen] using hm, fun h => absurd rfl h, fun h => absurd rfl h, fun j u h => by simp [u8L] at h, hb⟩
  · refine (clone_any q blk off c w hq hc).mono ?_
    rintro e w' ⟨v', rfl, ho, _, hb⟩
    have hcl := fun (g : Nat) (e : v'.ownBlock = some g) => ho.cells e
    rcases ho.2 with ⟨h1, h2⟩ | ⟨g, cap, cur, h1, h2, h3, h4, h5, _⟩
    · exact ⟨none, 0, 0, by rw [h1, h2], by omega, Nat.zero_le _, fun h => absurd h2 h, fun h => absurd h2 h, fun j u h => by rw [List.eq_nil_of_length_eq_zero h2] at h; simp [u8L] at h, hb⟩
    · exact ⟨_, cap, g, by rw [h1], h4, by simpa only [maxLen] using h5, fun _ => rfl, fun _ => ⟨h2, (Array.getElem?_eq_some_iff.1 h3).1⟩, fun j u h => by have := hcl g (by rw [h1]; rfl) j u h; rwa [add_addr] at this, hb⟩
theorem nameB_le {s : ByteArray} (h : nameB s = true) : s.size ≤ 80 := by
  unfold nameB at h
  exact (of_decide_eq_true h).2.1
set_option maxRecDepth 100000 in
set_option maxHeartbeats 2000000 in
theorem write_any {w : World} {F Ro : Nat → Prop} {db size bm : Nat} {es : List Fe} {hist : List Raw} {hv : Value} {fs : List Value} (h : DiskAt w F Ro db size es hist bm hv fs hist) (s : ByteArray) (hs : s.size ≤ 140737488355328) (q : Bs) (A : Option Addr) (c : Nat)
    (hA : InB w F A q) (hq : q.length ≤ 100000000) (hc : q.length ≤ c) (hh : hist.length + (q.length + 511) / 512 + 2 ≤ 900000) (hsz : size ≤ 8388608) :
    Calls Tryz.prog 31 #[.pointer (some ⟨db, 0, none⟩), .string s, .slice A q.length c] w fun e w' => e = .returned (.int .i64 (writeE (runR hist) size s q : Int)) ∧
      ∃ F' Ro' es' hv' fs', DiskAt w' F' Ro' db size es' (hist ++ rawsW (runR hist) size s q) bm hv' fs' (hist ++ rawsW (runR hist) size s q) ∧ (∀ k, F' k → F k ∨ w.heap.size ≤ k) ∧ (∀ k, Ro' k → Ro k ∨ w.heap.size ≤ k) ∧ Chg w w' F := by
  suffices hS : ∀ R : Ending → World → Prop, (∀ e w', (e = .returned (.int .i64 (writeE (runR hist) size s q : Int)) ∧
      ∃ F' Ro' es' hv' fs', DiskAt w' F' Ro' db size es' (hist ++ rawsW (runR hist) size s q) bm hv' fs' (hist ++ rawsW (runR hist) size s q) ∧ (∀ k, F' k → F k ∨ w.heap.size ≤ k) ∧ (∀ k, Ro' k → Ro k ∨ w.heap.size ≤ k) ∧ Chg w w' F) → R e w') → Calls Tryz.prog 31 #[.pointer (some ⟨db, 0, none⟩), .string s, .slice A q.length c] w R from hS _ (fun _ _ h => h)
  intro R hR
  have hfl := h.len_le
  have hul := h.used_le
  obtain ⟨b3, hb3⟩ : ∃ b, w.heap.size = b := ⟨_, rfl⟩
  obtain ⟨w0, hw0⟩ : ∃ w0, (w.alloc (.cells #[.pointer (some ⟨db, 0, none⟩)] 28)).alloc (.cells #[.string s] 9) = w0 := ⟨_, rfl⟩
  have hB : Below w.heap.size w w0 := hw0 ▸ ((Below.refl w.heap.size w).alloc (Nat.le_refl _) (.cells #[.pointer (some ⟨db, 0, none⟩)] 28)).alloc (by simp) (.cells #[.string s] 9)
  have hs0 : w0.heap.size = b3 + 2 := by rw [← hw0, ← hb3]; simp
  have hc0 : Chg w w0 (fun _ => False) := Chg.below hB _
  have h0 := h.chg (F' := F) (Ro' := Ro) hc0 (fun _ _ h => h) (fun _ _ h => h)
  have H3 : Holds w0 b3 28 #[.pointer (some ⟨db, 0, none⟩)] := by rw [← hw0, ← hb3]; exact (Holds.new w _ _).alloc _
  have H4 : Holds w0 (b3 + 1) 9 #[.string s] := by rw [← hw0, ← hb3]; have := Holds.new (w.alloc (.cells #[.pointer (some ⟨db, 0, none⟩)] 28)) 9 #[.string s]; rwa [World.size_alloc] at this
  have c3 : w0.cell? ⟨b3, 0, none⟩ = some (.pointer (some ⟨db, 0, none⟩)) := H3.cell 0
  have c4 : w0.cell? ⟨b3 + 1, 0, none⟩ = some (.string s) := H4.cell 0
  have nF : Hid (∀ k, b3 ≤ k → ¬ F k) := fun k hk hf => by have := h.ltF k hf; omega
  have nR : Hid (∀ k, b3 ≤ k → ¬ Ro k) := fun k hk hf => by have := h.ltR k hf; omega
  have ht := there_any db bm _ _ hv w0 h0.hold
  have hnm := named_any s w0 hs
  have p0 := h0.hold.cell 0
  have p1 := h0.hold.cell 1
  have p2 := h0.hold.cell 2
  simp at p0 p1 p2
  have hlen := fun w' (he : FsMap w' Tryz.prog 9 bm es) ty => he.len map_under ty
  obtain ⟨A0, c0, hval, hlc⟩ := valF_form h0.rows s
  have hle : ((getB (fsOf es) s).getD []).length ≤ usedB (fsOf es) := by
    have := used_del (by rw [h.says]; exact uniq_runR _ : UniqB (fsOf es)) s
    omega
  have hsome : (findF es s).isSome = (getB (fsOf es) s).isSome := by rw [getB_of]; simp
  have hfs : (fsOf es).length = es.length := by simp [fsOf]
  rw [← h.says] at hR
  have HR := Lib.hid hR
  clear hR
  have HSO := Lib.hid hsome
  have HV := Lib.hid hval
  have HM := Lib.hid h0.map
  have HH0 := Lib.hid h0
  have HW := Lib.hid h
  have HC0 := Lib.hid hc0
  have HA := Lib.hid hA
  have HB3 := Lib.hid hb3
  have HLN := Lib.hid hlen
  clear h0 h hc0 hA hval hsome hB hlen
  refine (callsIn_wide (n := 3)).1 ?_
  refine callsIn_of_wp_marks Tryz.func31 rfl trivial ?_ rfl
  refine wpIn_mono ?_ (noP_mono _)
  refine wpIn_wide.2 ?_
  simp only [Tryz.ntmps31, List.size_toArray, List.length_cons, List.length_nil, Nat.reduceAdd, Nat.reduceSub, Array.replicate_succ, Array.replicate_zero, List.push_toArray, List.append_toArray, List.nil_append, List.cons_append]
  have hfail : ∀ (w' : World), Chg w0 w' (fun _ => False) → ∃ F' Ro' es' hv' fs', DiskAt w' F' Ro' db size es' (hist ++ []) bm hv' fs' (hist ++ []) ∧ (∀ k, F' k → F k ∨ w.heap.size ≤ k) ∧ (∀ k, Ro' k → Ro k ∨ w.heap.size ≤ k) ∧ Chg w w' F := fun w' hc' => ⟨F, Ro, es, hv, fs, by rw [List.append_nil]; exact HH0.out.chg (F' := F) (Ro' := Ro) hc' (fun _ _ h => h) (fun _ _ h => h), fun _ h => .inl h, fun _ h => .inl h, (HC0.out.trans hc' (fun _ _ h => h)).mono (fun _ _ h => h.elim)⟩
  have HFL := Lib.hid hfail
  clear hfail
  cases hb : nameB s with
  | false =>
    have hwe : writeE (fsOf es) size s q = 1 := by unfold writeE; simp [hb]
    rw [hb] at hnm
    go_wp2_with (first
      | ((try rw [hw0]); (try rw [hb3]); go_at_call 17; refine ht.mono ?_; rintro e w1 ⟨rfl, rfl⟩)
      | (go_at_call 50; refine hnm.mono ?_; rintro e w1 ⟨rfl, rfl⟩))
    refine ⟨_, results_tmp rfl _ _ _, ?_⟩
    refine HR.out _ _ ⟨by rw [hwe]; rfl, ?_⟩
    unfold rawsW
    rw [hwe]
    exact HFL.out _ (Chg.refl _ _)
  | true =>
    rw [hb] at hnm
    go_wp2_with (first
      | ((try rw [hw0]); (try rw [hb3]); go_at_call 17; refine ht.mono ?_; rintro e w1 ⟨rfl, rfl⟩)
      | (go_at_call 50; refine hnm.mono ?_; rintro e w1 ⟨rfl, rfl⟩))
    refine wp_region_held_drew (S := (fun w' => w'.cell? ⟨b3, 0, none⟩ = some (.pointer (some ⟨db, 0, none⟩)) ∧ w'.cell? ⟨b3 + 1, 0, none⟩ = some (.string s) ∧ w'.cell? ⟨db, 2, none⟩ = some (.map (some bm)) ∧ FsMap w' Tryz.prog 9 bm es)) (by kernel_rfl) ?_ (fun hHeld0 => ?_)
    · (try dsimp only)
      exact ⟨c3, c4, p2, HM.out.eq rfl⟩
    refine wpAnyH_take (i := 0) (oi := ⟨some 17, _, _, _, _, _⟩) (v := ?_) rfl (by kernel_rfl) (by kernel_rfl) (by kernel_rfl) (fun _ _ _ h => h) (Or.inl ⟨by kernel_rfl, ?_⟩) (by assumption) ?_
    rotate_left
    · (intro w hSw; (try dsimp only at hSw); go_simp; (first | done | with_reducible rfl))
    (try simp only [Act.put, List.setIfInBounds_toArray, List.set_cons_zero, List.set_cons_succ])
    refine wpAnyH_take (i := 1) (oi := ⟨some 18, _, _, _, _, _⟩) (v := ?_) rfl (by kernel_rfl) (by kernel_rfl) (by kernel_rfl) (fun _ _ _ h => h) (Or.inl ⟨by kernel_rfl, ?_⟩) (by assumption) ?_
    rotate_left
    · (intro w hSw; (try dsimp only at hSw); go_simp; (first | done | with_reducible rfl))
    (try simp only [Act.put, List.setIfInBounds_toArray, List.set_cons_zero, List.set_cons_succ])
    refine wpAnyH_take (i := 2) (oi := ⟨some 19, _, _, _, _, _⟩) (v := ?_) rfl (by kernel_rfl) (by kernel_rfl) (by kernel_rfl) (fun _ _ _ h => h) (Or.inl ⟨by kernel_rfl, ?_⟩) (by assumption) ?_
    rotate_left
    · (intro w hSw; (try dsimp only at hSw); go_simp; (first | done | with_reducible rfl))
    (try simp only [Act.put, List.setIfInBounds_toArray, List.set_cons_zero, List.set_cons_succ])
    refine wpAnyH_take (i := 3) (oi := ⟨some 20, _, _, _, _, _⟩) (v := ?_) rfl (by kernel_rfl) (by kernel_rfl) (by kernel_rfl) (fun _ _ _ h => h) (Or.inl ⟨by kernel_rfl, ?_⟩) (by assumption) ?_
    rotate_left
    · (intro w hSw; (try dsimp only at hSw); go_simp; (first | done | with_reducible rfl))
    (try simp only [Act.put, List.setIfInBounds_toArray, List.set_cons_zero, List.set_cons_succ])
    refine wpAnyH_take (i := 4) (oi := ⟨some 21, _, _, _, _, _⟩) (v := ?_) rfl (by kernel_rfl) (by kernel_rfl) (by kernel_rfl) (fun _ _ _ h => h) (Or.inl ⟨by kernel_rfl, ?_⟩) (by assumption) ?_
    rotate_left
    · (intro w hSw; (try dsimp only at hSw); go_simp; (first | done | with_reducible rfl))
    (try simp only [Act.put, List.setIfInBounds_toArray, List.set_cons_zero, List.set_cons_succ])
    refine wpAnyH_take (i := 5) (oi := ⟨some 22, _, _, _, _, _⟩) (v := (.tuple #[.slice A0 ((getB (fsOf es) s).getD []).length c0, .bool (getB (fsOf es) s).isSome])) rfl (by kernel_rfl) (by kernel_rfl) (by kernel_rfl) (fun _ _ _ h => h) (Or.inl ⟨by kernel_rfl, ?_⟩) (by assumption) ?_
    · intro w hSw
      have hl := hSw.2.2.2.look_ok (s := s) str_key map_under (zero_bytes w) (by simp only [maxLen]; omega)
      rw [HV.out, HSO.out] at hl
      go_simp
    (try simp only [Act.put, List.setIfInBounds_toArray, List.set_cons_zero, List.set_cons_succ])
    refine wpAnyH_take (i := 6) (oi := ⟨some 16, _, _, _, _, _⟩) (v := ?_) rfl (by kernel_rfl) (by kernel_rfl) (by kernel_rfl) (fun _ _ _ h => h) (Or.inl ⟨by kernel_rfl, ?_⟩) (by assumption) ?_
    rotate_left
    · (intro w hSw; (try dsimp only at hSw); go_simp; (first | done | with_reducible rfl))
    (try simp only [Act.put, List.setIfInBounds_toArray, List.set_cons_zero, List.set_cons_succ])
    refine wpAnyH_take (i := 7) (oi := ⟨some 23, _, _, _, _, _⟩) (v := ?_) rfl (by kernel_rfl) (by kernel_rfl) (by kernel_rfl) (fun _ _ _ h => h) (Or.inl ⟨by kernel_rfl, ?_⟩) (by assumption) ?_
    rotate_left
    · (intro w hSw; (try dsimp only at hSw); go_simp; (first | done | with_reducible rfl))
    (try simp only [Act.put, List.setIfInBounds_toArray, List.set_cons_zero, List.set_cons_succ])
    refine wpAnyH_take (i := 8) (oi := ⟨some 24, _, _, _, _, _⟩) (v := ?_) rfl (by kernel_rfl) (by kernel_rfl) (by kernel_rfl) (fun _ _ _ h => h) (Or.inl ⟨by kernel_rfl, ?_⟩) (by assumption) ?_
    rotate_left
    · (intro w hSw; (try dsimp only at hSw); go_simp; (first | done | with_reducible rfl))
    (try simp only [Act.put, List.setIfInBounds_toArray, List.set_cons_zero, List.set_cons_succ])
    refine wpAnyH_take (i := 9) (oi := ⟨some 7, _, _, _, _, _⟩) (v := ?_) rfl (by kernel_rfl) (by kernel_rfl) (by kernel_rfl) (fun _ _ _ h => h) (Or.inl ⟨by kernel_rfl, ?_⟩) (by assumption) ?_
    rotate_left
    · (intro w hSw; (try dsimp only at hSw); go_simp; (first | done | with_reducible rfl))
    (try simp only [Act.put, List.setIfInBounds_toArray, List.set_cons_zero, List.set_cons_succ])
    refine wpAnyH_take (i := 10) (oi := ⟨some 8, _, _, _, _, _⟩) (v := ?_) rfl (by kernel_rfl) (by kernel_rfl) (by kernel_rfl) (fun _ _ _ h => h) (Or.inl ⟨by kernel_rfl, ?_⟩) (by assumption) ?_
    rotate_left
    · (intro w hSw; (try dsimp only at hSw); go_simp; (first | done | with_reducible rfl))
    (try simp only [Act.put, List.setIfInBounds_toArray, List.set_cons_zero, List.set_cons_succ])
    refine wpAnyH_done (by kernel_rfl) ?_ _
    obtain ⟨q3, q4, q2, HMx⟩ := hHeld0
    have hlen := HLN.out _ HMx
    by_cases hful : (getB (fsOf es) s).isNone = true ∧ 256 ≤ (fsOf es).length
    · have hwe : writeE (fsOf es) size s q = 6 := by unfold writeE; rw [if_pos hb, if_pos hful]
      obtain ⟨hf1, hf2⟩ := hful
      rw [hfs] at hf2
      obtain hg := Option.isNone_iff_eq_none.1 hf1
      rw [hg] at hle hlc
      simp only [Option.getD_none, hg, Option.isSome_none, List.length_nil] at hle hlc ⊢
      go_wp2
      refine ⟨_, results_tmp rfl _ _ _, ?_⟩
      refine HR.out _ _ ⟨by rw [hwe]; rfl, ?_⟩
      unfold rawsW
      rw [hwe]
      exact HFL.out _ (Chg.refl _ _).drew
    · have hwe : writeE (fsOf es) size s q = if (q.length : Int) > (size : Int) - ((usedB (fsOf es) : Int) - (((getB (fsOf es) s).getD []).length : Int)) then 6 else 0 := by unfold writeE; rw [if_pos hb, if_neg hful]
      cases hg : getB (fsOf es) s with
      | none =>
        have hlt : es.length < 256 := by rw [← hfs]; exact Nat.lt_of_not_le fun h => hful ⟨by rw [hg]; rfl, h⟩
        rw [hg] at hle hlc hwe
        simp only [Option.getD_none, Option.isSome_none, List.length_nil] at hle hlc hwe ⊢
        clear hful
        go_wp2
        refine wp_region_held_drew (S := (fun w' => w'.cell? ⟨b3, 0, none⟩ = some (.pointer (some ⟨db, 0, none⟩)) ∧ w'.cell? ⟨b3 + 1, 0, none⟩ = some (.string s) ∧ w'.cell? ⟨db, 0, none⟩ = some (.int .i64 (size : Int)) ∧ w'.cell? ⟨db, 1, none⟩ = some (.int .i64 (usedB (fsOf es) : Int)))) (by kernel_rfl) ?_ (fun hHeld0 => ?_)
        · (try dsimp only)
          exact ⟨q3, q4, p0, p1⟩
        refine wpAnyH_take (i := 0) (oi := ⟨some 35, _, _, _, _, _⟩) (v := ?_) rfl (by kernel_rfl) (by kernel_rfl) (by kernel_rfl) (fun _ _ _ h => h) (Or.inl ⟨by kernel_rfl, ?_⟩) (by assumption) ?_
        rotate_left
        · (intro w hSw; (try dsimp only at hSw); go_simp; (first | done | with_reducible rfl))
        (try simp only [Act.put, List.setIfInBounds_toArray, List.set_cons_zero, List.set_cons_succ])
        refine wpAnyH_take (i := 1) (oi := ⟨some 36, _, _, _, _, _⟩) (v := ?_) rfl (by kernel_rfl) (by kernel_rfl) (by kernel_rfl) (fun _ _ _ h => h) (Or.inl ⟨by kernel_rfl, ?_⟩) (by assumption) ?_
        rotate_left
        · (intro w hSw; (try dsimp only at hSw); go_simp; (first | done | with_reducible rfl))
        (try simp only [Act.put, List.setIfInBounds_toArray, List.set_cons_zero, List.set_cons_succ])
        refine wpAnyH_take (i := 2) (oi := ⟨some 37, _, _, _, _, _⟩) (v := ?_) rfl (by kernel_rfl) (by kernel_rfl) (by kernel_rfl) (fun _ _ _ h => h) (Or.inl ⟨by kernel_rfl, ?_⟩) (by assumption) ?_
        rotate_left
        · (intro w hSw; (try dsimp only at hSw); go_simp; (first | done | with_reducible rfl))
        (try simp only [Act.put, List.setIfInBounds_toArray, List.set_cons_zero, List.set_cons_succ])
        refine wpAnyH_take (i := 3) (oi := ⟨some 38, _, _, _, _, _⟩) (v := ?_) rfl (by kernel_rfl) (by kernel_rfl) (by kernel_rfl) (fun _ _ _ h => h) (Or.inl ⟨by kernel_rfl, ?_⟩) (by assumption) ?_
        rotate_left
        · (intro w hSw; (try dsimp only at hSw); go_simp; (first | done | with_reducible rfl))
        (try simp only [Act.put, List.setIfInBounds_toArray, List.set_cons_zero, List.set_cons_succ])
        refine wpAnyH_take (i := 4) (oi := ⟨some 39, _, _, _, _, _⟩) (v := ?_) rfl (by kernel_rfl) (by kernel_rfl) (by kernel_rfl) (fun _ _ _ h => h) (Or.inl ⟨by kernel_rfl, ?_⟩) (by assumption) ?_
        rotate_left
        · (intro w hSw; (try dsimp only at hSw); go_simp; (first | done | with_reducible rfl))
        (try simp only [Act.put, List.setIfInBounds_toArray, List.set_cons_zero, List.set_cons_succ])
        refine wpAnyH_take (i := 5) (oi := ⟨some 40, _, _, _, _, _⟩) (v := ?_) rfl (by kernel_rfl) (by kernel_rfl) (by kernel_rfl) (fun _ _ _ h => h) (Or.inl ⟨by kernel_rfl, ?_⟩) (by assumption) ?_
        rotate_left
        · (intro w hSw; (try dsimp only at hSw); go_simp; (first | done | with_reducible rfl))
        (try simp only [Act.put, List.setIfInBounds_toArray, List.set_cons_zero, List.set_cons_succ])
        refine wpAnyH_take (i := 6) (oi := ⟨some 41, _, _, _, _, _⟩) (v := ?_) rfl (by kernel_rfl) (by kernel_rfl) (by kernel_rfl) (fun _ _ _ h => h) (Or.inl ⟨by kernel_rfl, ?_⟩) (by assumption) ?_
        rotate_left
        · (intro w hSw; (try dsimp only at hSw); go_simp; (first | done | with_reducible rfl))
        (try simp only [Act.put, List.setIfInBounds_toArray, List.set_cons_zero, List.set_cons_succ])
        refine wpAnyH_take (i := 7) (oi := ⟨some 42, _, _, _, _, _⟩) (v := ?_) rfl (by kernel_rfl) (by kernel_rfl) (by kernel_rfl) (fun _ _ _ h => h) (Or.inl ⟨by kernel_rfl, ?_⟩) (by assumption) ?_
        rotate_left
        · (intro w hSw; (try dsimp only at hSw); go_simp; (first | done | with_reducible rfl))
        (try simp only [Act.put, List.setIfInBounds_toArray, List.set_cons_zero, List.set_cons_succ])
        refine wpAnyH_take (i := 8) (oi := ⟨some 43, _, _, _, _, _⟩) (v := ?_) rfl (by kernel_rfl) (by kernel_rfl) (by kernel_rfl) (fun _ _ _ h => h) (Or.inl ⟨by kernel_rfl, ?_⟩) (by assumption) ?_
        rotate_left
        · (intro w hSw; (try dsimp only at hSw); go_simp; (first | done | with_reducible rfl))
        (try simp only [Act.put, List.setIfInBounds_toArray, List.set_cons_zero, List.set_cons_succ])
        refine wpAnyH_take (i := 9) (oi := ⟨some 44, _, _, _, _, _⟩) (v := ?_) rfl (by kernel_rfl) (by kernel_rfl) (by kernel_rfl) (fun _ _ _ h => h) (Or.inl ⟨by kernel_rfl, ?_⟩) (by assumption) ?_
        rotate_left
        · (intro w hSw; (try dsimp only at hSw); go_simp; (first | done | with_reducible rfl))
        (try simp only [Act.put, List.setIfInBounds_toArray, List.set_cons_zero, List.set_cons_succ])
        refine wpAnyH_take (i := 10) (oi := ⟨some 45, _, _, _, _, _⟩) (v := ?_) rfl (by kernel_rfl) (by kernel_rfl) (by kernel_rfl) (fun _ _ _ h => h) (Or.inl ⟨by kernel_rfl, ?_⟩) (by assumption) ?_
        rotate_left
        · (intro w hSw; (try dsimp only at hSw); go_simp; (first | done | with_reducible rfl))
        (try simp only [Act.put, List.setIfInBounds_toArray, List.set_cons_zero, List.set_cons_succ])
        refine wpAnyH_take (i := 11) (oi := ⟨some 46, _, _, _, _, _⟩) (v := ?_) rfl (by kernel_rfl) (by kernel_rfl) (by kernel_rfl) (fun _ _ _ h => h) (Or.inl ⟨by kernel_rfl, ?_⟩) (by assumption) ?_
        rotate_left
        · (intro w hSw; (try dsimp only at hSw); go_simp; (first | done | with_reducible rfl))
        (try simp only [Act.put, List.setIfInBounds_toArray, List.set_cons_zero, List.set_cons_succ])
        refine wpAnyH_take (i := 12) (oi := ⟨some 47, _, _, _, _, _⟩) (v := ?_) rfl (by kernel_rfl) (by kernel_rfl) (by kernel_rfl) (fun _ _ _ h => h) (Or.inl ⟨by kernel_rfl, ?_⟩) (by assumption) ?_
        rotate_left
        · (intro w hSw; (try dsimp only at hSw); go_simp; (first | done | with_reducible rfl))
        (try simp only [Act.put, List.setIfInBounds_toArray, List.set_cons_zero, List.set_cons_succ])
        refine wpAnyH_take (i := 13) (oi := ⟨some 48, _, _, _, _, _⟩) (v := ?_) rfl (by kernel_rfl) (by kernel_rfl) (by kernel_rfl) (fun _ _ _ h => h) (Or.inl ⟨by kernel_rfl, ?_⟩) (by assumption) ?_
        rotate_left
        · (intro w hSw; (try dsimp only at hSw); go_simp; (first | done | with_reducible rfl))
        (try simp only [Act.put, List.setIfInBounds_toArray, List.set_cons_zero, List.set_cons_succ])
        refine wpAnyH_take (i := 14) (oi := ⟨some 49, _, _, _, _, _⟩) (v := ?_) rfl (by kernel_rfl) (by kernel_rfl) (by kernel_rfl) (fun _ _ _ h => h) (Or.inl ⟨by kernel_rfl, ?_⟩) (by assumption) ?_
        rotate_left
        · (intro w hSw; (try dsimp only at hSw); go_simp; (first | done | with_reducible rfl))
        (try simp only [Act.put, List.setIfInBounds_toArray, List.set_cons_zero, List.set_cons_succ])
        refine wpAnyH_done (by kernel_rfl) ?_ _
        obtain ⟨r3, r4, r0, r1⟩ := hHeld0
        have e1 : IntKind.i64.wrap (usedB (fsOf es) : Int) = (usedB (fsOf es) : Int) := IntWalk.i64_in _ (by omega)
        have e2 : ∀ m : Nat, m ≤ usedB (fsOf es) → IntKind.i64.wrap ((usedB (fsOf es) : Int) - (m : Int)) = (usedB (fsOf es) : Int) - (m : Int) := fun m hm => IntWalk.i64_in _ (by omega)
        have e3 : IntKind.i64.wrap ((size : Int) - (usedB (fsOf es) : Int)) = (size : Int) - (usedB (fsOf es) : Int) := IntWalk.i64_in _ (by omega)
        have e4 : ∀ m : Nat, m ≤ usedB (fsOf es) → IntKind.i64.wrap ((size : Int) - ((usedB (fsOf es) : Int) - (m : Int))) = (size : Int) - ((usedB (fsOf es) : Int) - (m : Int)) := fun m hm => IntWalk.i64_in _ (by omega)
        (try simp only [e1, e2 _ hle, e3, e4 _ hle])
        (try simp only [e1, e3])
        clear e1 e2 e3 e4
        rcases Nat.lt_or_ge (size + ((getB (fsOf es) s).getD []).length) (q.length + usedB (fsOf es)) with hbig | hbig
        · rw [if_pos (by rw [hg] at hbig; simp at hbig ⊢; omega)] at hwe
          rw [hg] at hbig
          simp at hbig
          go_wp2
          refine ⟨_, results_tmp rfl _ _ _, ?_⟩
          refine HR.out _ _ ⟨by rw [hwe]; rfl, ?_⟩
          unfold rawsW
          rw [hwe]
          exact HFL.out _ (Chg.refl _ _).drew.drew
        · rw [if_neg (by rw [hg] at hbig; simp at hbig ⊢; omega)] at hwe
          rw [hg] at hbig
          simp at hbig
          go_wp2_with fail
          refine wp_region_held_drew (S := (fun w' => w'.cell? ⟨b3, 0, none⟩ = some (.pointer (some ⟨db, 0, none⟩)) ∧ w'.cell? ⟨b3 + 1, 0, none⟩ = some (.string s))) (by kernel_rfl) ?_ (fun hHeld0 => ?_)
          · (try dsimp only)
            first | exact ⟨r3, r4⟩ | exact ⟨HCe.out.cell (p := ⟨b3, 0, none⟩) (fun h => h) r3, HCe.out.cell (p := ⟨b3 + 1, 0, none⟩) (fun h => h) r4⟩ | exact ⟨HCr.out.cell (p := ⟨b3, 0, none⟩) (nF.out _ (Nat.le_refl _)) r3, HCr.out.cell (p := ⟨b3 + 1, 0, none⟩) (nF.out _ (Nat.le_succ _)) r4⟩
          refine wpAnyH_take (i := 0) (oi := ⟨some 50, _, _, _, _, _⟩) (v := ?_) rfl (by kernel_rfl) (by kernel_rfl) (by kernel_rfl) (fun _ _ _ h => h) (Or.inl ⟨by kernel_rfl, ?_⟩) (by assumption) ?_
          rotate_left
          · (intro w hSw; (try dsimp only at hSw); go_simp; (first | done | with_reducible rfl))
          (try simp only [Act.put, List.setIfInBounds_toArray, List.set_cons_zero, List.set_cons_succ])
          refine wpAnyH_take (i := 1) (oi := ⟨some 51, _, _, _, _, _⟩) (v := ?_) rfl (by kernel_rfl) (by kernel_rfl) (by kernel_rfl) (fun _ _ _ h => h) (Or.inl ⟨by kernel_rfl, ?_⟩) (by assumption) ?_
          rotate_left
          · (intro w hSw; (try dsimp only at hSw); go_simp; (first | done | with_reducible rfl))
          (try simp only [Act.put, List.setIfInBounds_toArray, List.set_cons_zero, List.set_cons_succ])
          refine wpAnyH_ready (rs := [2]) (by kernel_rfl) (by simp) ?_
          refine AllReadyH.cons (o := ⟨some 52, _, _, _, _, _⟩) rfl (fun K hK => ?_) AllReadyH.nil
          go_simp
          refine (empty_any s _ (nameB_le hb)).mono ?_
          rintro e w2 ⟨f2, rfl, hra, hbl⟩
          have HCe := Lib.hid (Chg.below hbl (fun _ => False))
          refine hK.out _ _ ?_ (fun hHeld1 => ?_)
          · (try dsimp only)
            first | exact ⟨r3, r4⟩ | exact ⟨HCe.out.cell (p := ⟨b3, 0, none⟩) (fun h => h) r3, HCe.out.cell (p := ⟨b3 + 1, 0, none⟩) (fun h => h) r4⟩ | exact ⟨HCr.out.cell (p := ⟨b3, 0, none⟩) (nF.out _ (Nat.le_refl _)) r3, HCr.out.cell (p := ⟨b3 + 1, 0, none⟩) (nF.out _ (Nat.le_succ _)) r4⟩
          clear hK K hHeld0
          (try simp only [Act.put, List.setIfInBounds_toArray, List.set_cons_zero, List.set_cons_succ])
          refine wpAnyH_ready (rs := [3]) (by kernel_rfl) (by simp) ?_
          refine AllReadyH.cons (o := ⟨some 53, _, _, _, _, _⟩) rfl (fun K hK => ?_) AllReadyH.nil
          go_simp
          have hC2 : Chg _ w2 (fun _ => False) := ((Chg.refl w1 (fun _ => False)).drew.drew.drew).trans HCe.out (fun _ _ h => h)
          have hD2 := HH0.out.chg (F' := F) (Ro' := Ro) hC2 (fun _ _ h => h) (fun _ _ h => h)
          have hD2' := hD2.ro (Ro' := fun k => Ro k ∨ (w1.heap.size ≤ k ∧ k < w2.heap.size)) (fun _ h => .inl h) (fun k h => by
            rcases h with h | h
            · exact hD2.ltR k h
            · exact h.2) (fun k h hf => by
            rcases h with h | h
            · exact hD2.off k h hf
            · exact nF.out k (by omega) hf)
          refine (raw_any hD2' (hra.chg (Ro' := fun k => Ro k ∨ (w1.heap.size ≤ k ∧ k < w2.heap.size)) (Chg.refl w2 (fun _ => False)) (fun k h => .inr h) (fun _ _ h => h)) (by omega) (by omega) (by omega)).mono ?_
          rintro e w3 ⟨⟨v3, rfl⟩, es3, hv3, hD3, hcr⟩
          have HCr := Lib.hid ((HCe.out.mono (T := F) (fun _ _ h => h.elim)).trans hcr (fun _ _ h => h))
          have HD3 := Lib.hid hD3
          clear hD3 hD2 hD2' hcr
          refine hK.out _ _ ?_ (fun hHeld2 => ?_)
          · (try dsimp only)
            first | exact ⟨r3, r4⟩ | exact ⟨HCe.out.cell (p := ⟨b3, 0, none⟩) (fun h => h) r3, HCe.out.cell (p := ⟨b3 + 1, 0, none⟩) (fun h => h) r4⟩ | exact ⟨HCr.out.cell (p := ⟨b3, 0, none⟩) (nF.out _ (Nat.le_refl _)) r3, HCr.out.cell (p := ⟨b3 + 1, 0, none⟩) (nF.out _ (Nat.le_succ _)) r4⟩
          clear hK K hHeld1
          (try simp only [Act.put, List.setIfInBounds_toArray, List.set_cons_zero, List.set_cons_succ])
          refine wpAnyH_done (by kernel_rfl) ?_ _
          obtain ⟨t3, t4⟩ := hHeld2
          have HC3 := Lib.hid (((HC0.out.mono (T := F) (fun _ _ h => h.elim)).drew.drew.drew).trans HCr.out (fun _ _ h => h))
          have hsz2 : w1.heap.size ≤ w2.heap.size := hC2.size
          have hA3 := HA.out.chg HC3.out
          go_wp2_with (first
            | (go_at_call 53; refine (clone_all hA3 c (by omega)).mono ?_; rintro e w4 ⟨A4, c4', g, rfl, hc4a, hc4b, hA4, hg4, hcl4, hb4⟩)
            | (go_at_call 52; refine (chunk_any A4 q.length c4' _).mono ?_; rintro e w5 ⟨rfl, rfl⟩))
          have HD4 := Lib.hid HD3.out
          have hbm : bm < b3 := by have := HW.out.ltF _ HW.out.inBm; omega
          have HC4 := Lib.hid (HC3.out.trans (Chg.below hb4 (fun _ => False)) (fun _ _ h => h.elim))
          have hsz4 := hb4.size
          have hsz3 := HC3.out.size
          have hszr : w1.heap.size ≤ w3.heap.size := HCr.out.size
          obtain ⟨bS, hbS⟩ : ∃ bS, w4.heap.size = bS := ⟨_, rfl⟩
          obtain ⟨w5, hw5⟩ : ∃ w5, (w4.alloc (.cells #[.slice A4 q.length c4'] 69)).alloc (.cells #[.int .i64 512] 3) = w5 := ⟨_, rfl⟩
          have hb5 : Below bS w4 w5 := by rw [← hw5, ← hbS]; exact ((Below.refl _ w4).alloc (Nat.le_refl _) _).alloc (by simp) _
          have hs5 : w5.heap.size = bS + 2 := by rw [← hw5, ← hbS]; simp
          have cS : w5.cell? ⟨bS, 0, none⟩ = some (.slice A4 q.length c4') := by rw [← hw5, ← hbS]; exact ((Holds.new w4 _ _).alloc _).cell 0
          have cN : w5.cell? ⟨bS + 1, 0, none⟩ = some (.int .i64 512) := by rw [← hw5, ← hbS]; have := Holds.new (w4.alloc (.cells #[.slice A4 q.length c4'] 69)) 3 #[.int .i64 512]; rw [World.size_alloc] at this; exact this.cell 0
          have hc45 : Chg w3 w5 (fun _ => False) := (Chg.below hb4 (fun _ => False)).trans (Chg.below (hbS ▸ hb5) (fun _ => False)) (fun _ _ h => h)
          have hI0 : WrI w F Ro w5.heap.size b3 (fun k => k = b3 ∨ k = b3 + 1 ∨ k = bS ∨ k = bS + 1) db size bm g s q hist [] w5 := by
            have hcells5 : ∀ (j : Nat) u, (u8L q)[j]? = some u → w5.cell? ⟨g, 0 + j, none⟩ = some u := fun j u hu => (hb5.cell (p := ⟨g, 0 + j, none⟩) (hbS ▸ World.block_lt_of_cell? w4 _ (hcl4 j u hu))).trans (hcl4 j u hu)
            have hD5 := HD4.out.chg (F' := fun k => F k ∨ w2.heap.size ≤ k ∧ k < w3.heap.size) (Ro' := fun k => Ro k ∨ w1.heap.size ≤ k ∧ k < w2.heap.size) hc45 (fun _ _ h => h) (fun _ _ h => h)
            have hsz5 := hb5.size
            have hD6 := hD5.ro (Ro' := fun k => (Ro k ∨ w1.heap.size ≤ k ∧ k < w2.heap.size) ∨ (q.length ≠ 0 ∧ k = g)) (fun _ h => .inl h) (fun k h => by
              rcases h with h | ⟨h, rfl⟩
              · exact hD5.ltR k h
              · have := hg4 h; omega) (fun k h hf => by
              rcases h with h | ⟨h, rfl⟩
              · exact hD5.off k h hf
              · have h7 := hg4 h
                rcases hf with hf | hf
                · exact nF.out k (by omega) hf
                · omega)
            refine ⟨⟨_, _, _, _, _, WrD.of (B := w5.heap.size) (b3 := b3) (F := F) (Ro := Ro) (X := fun k => k = b3 ∨ k = b3 + 1 ∨ k = bS ∨ k = bS + 1) (g := g) (q := q) (by rw [histP_nil]; exact hD6) (by omega) ?_ ?_ ?_ ?_ hcells5⟩, hc45.cell (p := ⟨b3, 0, none⟩) (fun h => h) t3, hc45.cell (p := ⟨b3 + 1, 0, none⟩) (fun h => h) t4, hcells5, HC3.out.trans hc45 (fun _ _ h => h.elim), Nat.le_refl _⟩
            · intro k hk
              rcases hk with hk | hk
              · exact .inl hk
              · exact .inr (by omega)
            · intro k hk
              rcases hk with (hk | hk) | ⟨hk, rfl⟩
              · exact .inl hk
              · exact .inr (by omega)
              · have := hg4 hk; exact .inr (by omega)
            · intro k hk hf
              rcases hf with hf | hf
              · exact nF.out k (by omega) hf
              · omega
            · exact fun hq0 => .inr ⟨hq0, rfl⟩
          rw [hw5, hbS]
          have HI0 := Lib.hid hI0
          clear hI0 hc45 hb5 hcl4
          refine (wpIn_wide (n := 3)).1 ?_
          refine wpIn_rangeFunc_ownG (n := 3) rfl (by decide) (gf := 70) (lb := #[.pointer (some ⟨bS, 0, none⟩), .pointer (some ⟨bS + 1, 0, none⟩)]) rfl trivial (enters_of Tryz.func70 (by kernel_rfl) rfl)
            (chunk_stops Fence.wide _ trivial rfl (by decide) bS (bS + 1) g 0 q.length c4' A4 hA4 (by omega) hc4a hc4b w5 cS cN) (fun h1 h2 => h1.trans h2)
            (fun W l o o' hl ho h1 h2 => ⟨World.putObj_heap_other (by omega), World.putObj_heap_other (by omega)⟩) (Below.refl _ _) (fun _ => rfl)
            (WrI w F Ro w5.heap.size b3 (fun k => k = b3 ∨ k = b3 + 1 ∨ k = bS ∨ k = bS + 1) db size bm g s q hist) (fun _ _ _ => False)
            (WrI.own (by omega)) (fun _ _ _ _ _ hs _ _ => hs) HI0.out ?_ ?_ ?_ ?_ ?_
          rotate_left
          · intro l x W K hK
            simp only [encP]
            gi_wp2
            exact hK
          · rintro l pre x W hI hlen
            obtain ⟨F1, Ro1, es1, hv1, fs1, hd⟩ := hI.ex
            have i3 := hI.c3
            have i4 := hI.c4
            have hlx := x.2
            have hpl := histP_length hist s q pre
            have hel := hd.disk.len_le
            have hus := hd.disk.used_le
            have hbeh := behind_any s (pieceAt q x.1) g (x.1 * 512) (min 512 (q.length - x.1 * 512)) W.drew Ro1 (nameB_le hb) (by rw [pieceAt_length]; omega) (hd.inG (by omega)) (piece_cells hI.cg)
            rw [pieceAt_length] at hbeh
            have hmx : Tryz.prog.follows .mixedOrders = true := by kernel_rfl
            have HHD := Lib.hid hd
            have HHI := Lib.hid hI
            clear hd hI
            gi_wp2
            gi_region_with_o (first
              | (refine ⟨trivial, ?_⟩; gi_at_call 54; refine (CallsIn.inRound l (callsIn_wide.2 hbeh)).mono ?_; rintro e W2 ⟨f, rfl, hra, hbl⟩; have hcW2 := Lib.hid (((Chg.refl W (fun _ => False)).drew).trans (Chg.below hbl (fun _ => False)) (fun _ _ h => h)); have j3 := hcW2.out.cell (p := ⟨b3, 0, none⟩) (fun h => h) i3)
              | (refine ⟨trivial, ?_⟩; gi_at_call 40; have hRA := wr_raw HHD.out hra hbl (by omega); refine (CallsIn.inRound l (callsIn_wide.2 hRA)).mono ?_; rintro e W3 ⟨⟨v, rfl⟩, es3, hv3, hD3, hc3⟩))
            all_goals gi_wp2
            all_goals (try go_bits)
            all_goals (
              have hn := wr_next HHI.out HHD.out hcW2.out hc3 (HHD.out.off b3 (.inl rfl)) (HHD.out.off (b3 + 1) (.inr (.inl rfl))) (by omega) (by omega) (fun k hk => by omega) hb3 hD3
              exact ⟨hn.1, ⟨hn.2.1 bS (.inr (.inr (.inl rfl))), hn.2.1 (bS + 1) (.inr (.inr (.inr rfl)))⟩, hn.2.2⟩)
          · rintro D ys W hD ⟨k, rfl, hk⟩ hI hK
            go_wp2
            refine ⟨by simp, .inl ⟨_, _, rfl, run_takeDeferred hK, ?_⟩⟩
            refine ⟨_, results_tmp rfl _ _ _, ?_⟩
            have hI2 := WrI.own (by omega) _ _ _ _ hI (grownBy_putObj' W D (.deferred none)) (fun r e => by cases e; exact ⟨hD, _, hK, rfl⟩)
            obtain ⟨F1, Ro1, es1, hv1, fs1, hd⟩ := hI2.ex
            refine HR.out _ _ ⟨by rw [hwe]; rfl, F1, Ro1, es1, hv1, fs1, ?_, fun k hk => ?_, fun k hk => ?_, hI2.chg⟩
            · have e1 : hist ++ rawsW (fsOf es) size s q = histP hist s q (uptoP q.length k) := by
                unfold rawsW histP
                rw [hwe, if_pos rfl, uptoP_all hk]
                simp
              rw [e1]
              exact hd.disk
            · rw [hb3]; exact hd.inF k hk
            · rw [hb3]; exact hd.inR k hk
          · rintro D c pre W _ _ h _
            exact h.elim
      | some o =>
        rw [hg] at hle hlc hwe
        simp only [Option.getD_some, Option.isSome_some] at hle hlc hwe ⊢
        clear hful
        go_wp2
        refine wp_region_held_drew (S := (fun w' => w'.cell? ⟨b3, 0, none⟩ = some (.pointer (some ⟨db, 0, none⟩)) ∧ w'.cell? ⟨b3 + 1, 0, none⟩ = some (.string s) ∧ w'.cell? ⟨db, 0, none⟩ = some (.int .i64 (size : Int)) ∧ w'.cell? ⟨db, 1, none⟩ = some (.int .i64 (usedB (fsOf es) : Int)))) (by kernel_rfl) ?_ (fun hHeld0 => ?_)
        · (try dsimp only)
          exact ⟨q3, q4, p0, p1⟩
        refine wpAnyH_take (i := 0) (oi := ⟨some 35, _, _, _, _, _⟩) (v := ?_) rfl (by kernel_rfl) (by kernel_rfl) (by kernel_rfl) (fun _ _ _ h => h) (Or.inl ⟨by kernel_rfl, ?_⟩) (by assumption) ?_
        rotate_left
        · (intro w hSw; (try dsimp only at hSw); go_simp; (first | done | with_reducible rfl))
        (try simp only [Act.put, List.setIfInBounds_toArray, List.set_cons_zero, List.set_cons_succ])
        refine wpAnyH_take (i := 1) (oi := ⟨some 36, _, _, _, _, _⟩) (v := ?_) rfl (by kernel_rfl) (by kernel_rfl) (by kernel_rfl) (fun _ _ _ h => h) (Or.inl ⟨by kernel_rfl, ?_⟩) (by assumption) ?_
        rotate_left
        · (intro w hSw; (try dsimp only at hSw); go_simp; (first | done | with_reducible rfl))
        (try simp only [Act.put, List.setIfInBounds_toArray, List.set_cons_zero, List.set_cons_succ])
        refine wpAnyH_take (i := 2) (oi := ⟨some 37, _, _, _, _, _⟩) (v := ?_) rfl (by kernel_rfl) (by kernel_rfl) (by kernel_rfl) (fun _ _ _ h => h) (Or.inl ⟨by kernel_rfl, ?_⟩) (by assumption) ?_
        rotate_left
        · (intro w hSw; (try dsimp only at hSw); go_simp; (first | done | with_reducible rfl))
        (try simp only [Act.put, List.setIfInBounds_toArray, List.set_cons_zero, List.set_cons_succ])
        refine wpAnyH_take (i := 3) (oi := ⟨some 38, _, _, _, _, _⟩) (v := ?_) rfl (by kernel_rfl) (by kernel_rfl) (by kernel_rfl) (fun _ _ _ h => h) (Or.inl ⟨by kernel_rfl, ?_⟩) (by assumption) ?_
        rotate_left
        · (intro w hSw; (try dsimp only at hSw); go_simp; (first | done | with_reducible rfl))
        (try simp only [Act.put, List.setIfInBounds_toArray, List.set_cons_zero, List.set_cons_succ])
        refine wpAnyH_take (i := 4) (oi := ⟨some 39, _, _, _, _, _⟩) (v := ?_) rfl (by kernel_rfl) (by kernel_rfl) (by kernel_rfl) (fun _ _ _ h => h) (Or.inl ⟨by kernel_rfl, ?_⟩) (by assumption) ?_
        rotate_left
        · (intro w hSw; (try dsimp only at hSw); go_simp; (first | done | with_reducible rfl))
        (try simp only [Act.put, List.setIfInBounds_toArray, List.set_cons_zero, List.set_cons_succ])
        refine wpAnyH_take (i := 5) (oi := ⟨some 40, _, _, _, _, _⟩) (v := ?_) rfl (by kernel_rfl) (by kernel_rfl) (by kernel_rfl) (fun _ _ _ h => h) (Or.inl ⟨by kernel_rfl, ?_⟩) (by assumption) ?_
        rotate_left
        · (intro w hSw; (try dsimp only at hSw); go_simp; (first | done | with_reducible rfl))
        (try simp only [Act.put, List.setIfInBounds_toArray, List.set_cons_zero, List.set_cons_succ])
        refine wpAnyH_take (i := 6) (oi := ⟨some 41, _, _, _, _, _⟩) (v := ?_) rfl (by kernel_rfl) (by kernel_rfl) (by kernel_rfl) (fun _ _ _ h => h) (Or.inl ⟨by kernel_rfl, ?_⟩) (by assumption) ?_
        rotate_left
        · (intro w hSw; (try dsimp only at hSw); go_simp; (first | done | with_reducible rfl))
        (try simp only [Act.put, List.setIfInBounds_toArray, List.set_cons_zero, List.set_cons_succ])
        refine wpAnyH_take (i := 7) (oi := ⟨some 42, _, _, _, _, _⟩) (v := ?_) rfl (by kernel_rfl) (by kernel_rfl) (by kernel_rfl) (fun _ _ _ h => h) (Or.inl ⟨by kernel_rfl, ?_⟩) (by assumption) ?_
        rotate_left
        · (intro w hSw; (try dsimp only at hSw); go_simp; (first | done | with_reducible rfl))
        (try simp only [Act.put, List.setIfInBounds_toArray, List.set_cons_zero, List.set_cons_succ])
        refine wpAnyH_take (i := 8) (oi := ⟨some 43, _, _, _, _, _⟩) (v := ?_) rfl (by kernel_rfl) (by kernel_rfl) (by kernel_rfl) (fun _ _ _ h => h) (Or.inl ⟨by kernel_rfl, ?_⟩) (by assumption) ?_
        rotate_left
        · (intro w hSw; (try dsimp only at hSw); go_simp; (first | done | with_reducible rfl))
        (try simp only [Act.put, List.setIfInBounds_toArray, List.set_cons_zero, List.set_cons_succ])
        refine wpAnyH_take (i := 9) (oi := ⟨some 44, _, _, _, _, _⟩) (v := ?_) rfl (by kernel_rfl) (by kernel_rfl) (by kernel_rfl) (fun _ _ _ h => h) (Or.inl ⟨by kernel_rfl, ?_⟩) (by assumption) ?_
        rotate_left
        · (intro w hSw; (try dsimp only at hSw); go_simp; (first | done | with_reducible rfl))
        (try simp only [Act.put, List.setIfInBounds_toArray, List.set_cons_zero, List.set_cons_succ])
        refine wpAnyH_take (i := 10) (oi := ⟨some 45, _, _, _, _, _⟩) (v := ?_) rfl (by kernel_rfl) (by kernel_rfl) (by kernel_rfl) (fun _ _ _ h => h) (Or.inl ⟨by kernel_rfl, ?_⟩) (by assumption) ?_
        rotate_left
        · (intro w hSw; (try dsimp only at hSw); go_simp; (first | done | with_reducible rfl))
        (try simp only [Act.put, List.setIfInBounds_toArray, List.set_cons_zero, List.set_cons_succ])
        refine wpAnyH_take (i := 11) (oi := ⟨some 46, _, _, _, _, _⟩) (v := ?_) rfl (by kernel_rfl) (by kernel_rfl) (by kernel_rfl) (fun _ _ _ h => h) (Or.inl ⟨by kernel_rfl, ?_⟩) (by assumption) ?_
        rotate_left
        · (intro w hSw; (try dsimp only at hSw); go_simp; (first | done | with_reducible rfl))
        (try simp only [Act.put, List.setIfInBounds_toArray, List.set_cons_zero, List.set_cons_succ])
        refine wpAnyH_take (i := 12) (oi := ⟨some 47, _, _, _, _, _⟩) (v := ?_) rfl (by kernel_rfl) (by kernel_rfl) (by kernel_rfl) (fun _ _ _ h => h) (Or.inl ⟨by kernel_rfl, ?_⟩) (by assumption) ?_
        rotate_left
        · (intro w hSw; (try dsimp only at hSw); go_simp; (first | done | with_reducible rfl))
        (try simp only [Act.put, List.setIfInBounds_toArray, List.set_cons_zero, List.set_cons_succ])
        refine wpAnyH_take (i := 13) (oi := ⟨some 48, _, _, _, _, _⟩) (v := ?_) rfl (by kernel_rfl) (by kernel_rfl) (by kernel_rfl) (fun _ _ _ h => h) (Or.inl ⟨by kernel_rfl, ?_⟩) (by assumption) ?_
        rotate_left
        · (intro w hSw; (try dsimp only at hSw); go_simp; (first | done | with_reducible rfl))
        (try simp only [Act.put, List.setIfInBounds_toArray, List.set_cons_zero, List.set_cons_succ])
        refine wpAnyH_take (i := 14) (oi := ⟨some 49, _, _, _, _, _⟩) (v := ?_) rfl (by kernel_rfl) (by kernel_rfl) (by kernel_rfl) (fun _ _ _ h => h) (Or.inl ⟨by kernel_rfl, ?_⟩) (by assumption) ?_
        rotate_left
        · (intro w hSw; (try dsimp only at hSw); go_simp; (first | done | with_reducible rfl))
        (try simp only [Act.put, List.setIfInBounds_toArray, List.set_cons_zero, List.set_cons_succ])
        refine wpAnyH_done (by kernel_rfl) ?_ _
        obtain ⟨r3, r4, r0, r1⟩ := hHeld0
        have e1 : IntKind.i64.wrap (usedB (fsOf es) : Int) = (usedB (fsOf es) : Int) := IntWalk.i64_in _ (by omega)
        have e2 : ∀ m : Nat, m ≤ usedB (fsOf es) → IntKind.i64.wrap ((usedB (fsOf es) : Int) - (m : Int)) = (usedB (fsOf es) : Int) - (m : Int) := fun m hm => IntWalk.i64_in _ (by omega)
        have e3 : IntKind.i64.wrap ((size : Int) - (usedB (fsOf es) : Int)) = (size : Int) - (usedB (fsOf es) : Int) := IntWalk.i64_in _ (by omega)
        have e4 : ∀ m : Nat, m ≤ usedB (fsOf es) → IntKind.i64.wrap ((size : Int) - ((usedB (fsOf es) : Int) - (m : Int))) = (size : Int) - ((usedB (fsOf es) : Int) - (m : Int)) := fun m hm => IntWalk.i64_in _ (by omega)
        (try simp only [e1, e2 _ hle, e3, e4 _ hle])
        (try simp only [e1, e3])
        clear e1 e2 e3 e4
        rcases Nat.lt_or_ge (size + ((getB (fsOf es) s).getD []).length) (q.length + usedB (fsOf es)) with hbig | hbig
        · rw [if_pos (by rw [hg] at hbig; simp at hbig ⊢; omega)] at hwe
          rw [hg] at hbig
          simp at hbig
          go_wp2
          refine ⟨_, results_tmp rfl _ _ _, ?_⟩
          refine HR.out _ _ ⟨by rw [hwe]; rfl, ?_⟩
          unfold rawsW
          rw [hwe]
          exact HFL.out _ (Chg.refl _ _).drew.drew
        · rw [if_neg (by rw [hg] at hbig; simp at hbig ⊢; omega)] at hwe
          rw [hg] at hbig
          simp at hbig
          go_wp2_with fail
          refine wp_region_held_drew (S := (fun w' => w'.cell? ⟨b3, 0, none⟩ = some (.pointer (some ⟨db, 0, none⟩)) ∧ w'.cell? ⟨b3 + 1, 0, none⟩ = some (.string s))) (by kernel_rfl) ?_ (fun hHeld0 => ?_)
          · (try dsimp only)
            first | exact ⟨r3, r4⟩ | exact ⟨HCe.out.cell (p := ⟨b3, 0, none⟩) (fun h => h) r3, HCe.out.cell (p := ⟨b3 + 1, 0, none⟩) (fun h => h) r4⟩ | exact ⟨HCr.out.cell (p := ⟨b3, 0, none⟩) (nF.out _ (Nat.le_refl _)) r3, HCr.out.cell (p := ⟨b3 + 1, 0, none⟩) (nF.out _ (Nat.le_succ _)) r4⟩
          refine wpAnyH_take (i := 0) (oi := ⟨some 50, _, _, _, _, _⟩) (v := ?_) rfl (by kernel_rfl) (by kernel_rfl) (by kernel_rfl) (fun _ _ _ h => h) (Or.inl ⟨by kernel_rfl, ?_⟩) (by assumption) ?_
          rotate_left
          · (intro w hSw; (try dsimp only at hSw); go_simp; (first | done | with_reducible rfl))
          (try simp only [Act.put, List.setIfInBounds_toArray, List.set_cons_zero, List.set_cons_succ])
          refine wpAnyH_take (i := 1) (oi := ⟨some 51, _, _, _, _, _⟩) (v := ?_) rfl (by kernel_rfl) (by kernel_rfl) (by kernel_rfl) (fun _ _ _ h => h) (Or.inl ⟨by kernel_rfl, ?_⟩) (by assumption) ?_
          rotate_left
          · (intro w hSw; (try dsimp only at hSw); go_simp; (first | done | with_reducible rfl))
          (try simp only [Act.put, List.setIfInBounds_toArray, List.set_cons_zero, List.set_cons_succ])
          refine wpAnyH_ready (rs := [2]) (by kernel_rfl) (by simp) ?_
          refine AllReadyH.cons (o := ⟨some 52, _, _, _, _, _⟩) rfl (fun K hK => ?_) AllReadyH.nil
          go_simp
          refine (empty_any s _ (nameB_le hb)).mono ?_
          rintro e w2 ⟨f2, rfl, hra, hbl⟩
          have HCe := Lib.hid (Chg.below hbl (fun _ => False))
          refine hK.out _ _ ?_ (fun hHeld1 => ?_)
          · (try dsimp only)
            first | exact ⟨r3, r4⟩ | exact ⟨HCe.out.cell (p := ⟨b3, 0, none⟩) (fun h => h) r3, HCe.out.cell (p := ⟨b3 + 1, 0, none⟩) (fun h => h) r4⟩ | exact ⟨HCr.out.cell (p := ⟨b3, 0, none⟩) (nF.out _ (Nat.le_refl _)) r3, HCr.out.cell (p := ⟨b3 + 1, 0, none⟩) (nF.out _ (Nat.le_succ _)) r4⟩
          clear hK K hHeld0
          (try simp only [Act.put, List.setIfInBounds_toArray, List.set_cons_zero, List.set_cons_succ])
          refine wpAnyH_ready (rs := [3]) (by kernel_rfl) (by simp) ?_
          refine AllReadyH.cons (o := ⟨some 53, _, _, _, _, _⟩) rfl (fun K hK => ?_) AllReadyH.nil
          go_simp
          have hC2 : Chg _ w2 (fun _ => False) := ((Chg.refl w1 (fun _ => False)).drew.drew.drew).trans HCe.out (fun _ _ h => h)
          have hD2 := HH0.out.chg (F' := F) (Ro' := Ro) hC2 (fun _ _ h => h) (fun _ _ h => h)
          have hD2' := hD2.ro (Ro' := fun k => Ro k ∨ (w1.heap.size ≤ k ∧ k < w2.heap.size)) (fun _ h => .inl h) (fun k h => by
            rcases h with h | h
            · exact hD2.ltR k h
            · exact h.2) (fun k h hf => by
            rcases h with h | h
            · exact hD2.off k h hf
            · exact nF.out k (by omega) hf)
          refine (raw_any hD2' (hra.chg (Ro' := fun k => Ro k ∨ (w1.heap.size ≤ k ∧ k < w2.heap.size)) (Chg.refl w2 (fun _ => False)) (fun k h => .inr h) (fun _ _ h => h)) (by omega) (by omega) (by omega)).mono ?_
          rintro e w3 ⟨⟨v3, rfl⟩, es3, hv3, hD3, hcr⟩
          have HCr := Lib.hid ((HCe.out.mono (T := F) (fun _ _ h => h.elim)).trans hcr (fun _ _ h => h))
          have HD3 := Lib.hid hD3
          clear hD3 hD2 hD2' hcr
          refine hK.out _ _ ?_ (fun hHeld2 => ?_)
          · (try dsimp only)
            first | exact ⟨r3, r4⟩ | exact ⟨HCe.out.cell (p := ⟨b3, 0, none⟩) (fun h => h) r3, HCe.out.cell (p := ⟨b3 + 1, 0, none⟩) (fun h => h) r4⟩ | exact ⟨HCr.out.cell (p := ⟨b3, 0, none⟩) (nF.out _ (Nat.le_refl _)) r3, HCr.out.cell (p := ⟨b3 + 1, 0, none⟩) (nF.out _ (Nat.le_succ _)) r4⟩
          clear hK K hHeld1
          (try simp only [Act.put, List.setIfInBounds_toArray, List.set_cons_zero, List.set_cons_succ])
          refine wpAnyH_done (by kernel_rfl) ?_ _
          obtain ⟨t3, t4⟩ := hHeld2
          have HC3 := Lib.hid (((HC0.out.mono (T := F) (fun _ _ h => h.elim)).drew.drew.drew).trans HCr.out (fun _ _ h => h))
          have hsz2 : w1.heap.size ≤ w2.heap.size := hC2.size
          have hA3 := HA.out.chg HC3.out
          go_wp2_with (first
            | (go_at_call 53; refine (clone_all hA3 c (by omega)).mono ?_; rintro e w4 ⟨A4, c4', g, rfl, hc4a, hc4b, hA4, hg4, hcl4, hb4⟩)
            | (go_at_call 52; refine (chunk_any A4 q.length c4' _).mono ?_; rintro e w5 ⟨rfl, rfl⟩))
          have HD4 := Lib.hid HD3.out
          have hbm : bm < b3 := by have := HW.out.ltF _ HW.out.inBm; omega
          have HC4 := Lib.hid (HC3.out.trans (Chg.below hb4 (fun _ => False)) (fun _ _ h => h.elim))
          have hsz4 := hb4.size
          have hsz3 := HC3.out.size
          have hszr : w1.heap.size ≤ w3.heap.size := HCr.out.size
          obtain ⟨bS, hbS⟩ : ∃ bS, w4.heap.size = bS := ⟨_, rfl⟩
          obtain ⟨w5, hw5⟩ : ∃ w5, (w4.alloc (.cells #[.slice A4 q.length c4'] 69)).alloc (.cells #[.int .i64 512] 3) = w5 := ⟨_, rfl⟩
          have hb5 : Below bS w4 w5 := by rw [← hw5, ← hbS]; exact ((Below.refl _ w4).alloc (Nat.le_refl _) _).alloc (by simp) _
          have hs5 : w5.heap.size = bS + 2 := by rw [← hw5, ← hbS]; simp
          have cS : w5.cell? ⟨bS, 0, none⟩ = some (.slice A4 q.length c4') := by rw [← hw5, ← hbS]; exact ((Holds.new w4 _ _).alloc _).cell 0
          have cN : w5.cell? ⟨bS + 1, 0, none⟩ = some (.int .i64 512) := by rw [← hw5, ← hbS]; have := Holds.new (w4.alloc (.cells #[.slice A4 q.length c4'] 69)) 3 #[.int .i64 512]; rw [World.size_alloc] at this; exact this.cell 0
          have hc45 : Chg w3 w5 (fun _ => False) := (Chg.below hb4 (fun _ => False)).trans (Chg.below (hbS ▸ hb5) (fun _ => False)) (fun _ _ h => h)
          have hI0 : WrI w F Ro w5.heap.size b3 (fun k => k = b3 ∨ k = b3 + 1 ∨ k = bS ∨ k = bS + 1) db size bm g s q hist [] w5 := by
            have hcells5 : ∀ (j : Nat) u, (u8L q)[j]? = some u → w5.cell? ⟨g, 0 + j, none⟩ = some u := fun j u hu => (hb5.cell (p := ⟨g, 0 + j, none⟩) (hbS ▸ World.block_lt_of_cell? w4 _ (hcl4 j u hu))).trans (hcl4 j u hu)
            have hD5 := HD4.out.chg (F' := fun k => F k ∨ w2.heap.size ≤ k ∧ k < w3.heap.size) (Ro' := fun k => Ro k ∨ w1.heap.size ≤ k ∧ k < w2.heap.size) hc45 (fun _ _ h => h) (fun _ _ h => h)
            have hsz5 := hb5.size
            have hD6 := hD5.ro (Ro' := fun k => (Ro k ∨ w1.heap.size ≤ k ∧ k < w2.heap.size) ∨ (q.length ≠ 0 ∧ k = g)) (fun _ h => .inl h) (fun k h => by
              rcases h with h | ⟨h, rfl⟩
              · exact hD5.ltR k h
              · have := hg4 h; omega) (fun k h hf => by
              rcases h with h | ⟨h, rfl⟩
              · exact hD5.off k h hf
              · have h7 := hg4 h
                rcases hf with hf | hf
                · exact nF.out k (by omega) hf
                · omega)
            refine ⟨⟨_, _, _, _, _, WrD.of (B := w5.heap.size) (b3 := b3) (F := F) (Ro := Ro) (X := fun k => k = b3 ∨ k = b3 + 1 ∨ k = bS ∨ k = bS + 1) (g := g) (q := q) (by rw [histP_nil]; exact hD6) (by omega) ?_ ?_ ?_ ?_ hcells5⟩, hc45.cell (p := ⟨b3, 0, none⟩) (fun h => h) t3, hc45.cell (p := ⟨b3 + 1, 0, none⟩) (fun h => h) t4, hcells5, HC3.out.trans hc45 (fun _ _ h => h.elim), Nat.le_refl _⟩
            · intro k hk
              rcases hk with hk | hk
              · exact .inl hk
              · exact .inr (by omega)
            · intro k hk
              rcases hk with (hk | hk) | ⟨hk, rfl⟩
              · exact .inl hk
              · exact .inr (by omega)
              · have := hg4 hk; exact .inr (by omega)
            · intro k hk hf
              rcases hf with hf | hf
              · exact nF.out k (by omega) hf
              · omega
            · exact fun hq0 => .inr ⟨hq0, rfl⟩
          rw [hw5, hbS]
          have HI0 := Lib.hid hI0
          clear hI0 hc45 hb5 hcl4
          refine (wpIn_wide (n := 3)).1 ?_
          refine wpIn_rangeFunc_ownG (n := 3) rfl (by decide) (gf := 70) (lb := #[.pointer (some ⟨bS, 0, none⟩), .pointer (some ⟨bS + 1, 0, none⟩)]) rfl trivial (enters_of Tryz.func70 (by kernel_rfl) rfl)
            (chunk_stops Fence.wide _ trivial rfl (by decide) bS (bS + 1) g 0 q.length c4' A4 hA4 (by omega) hc4a hc4b w5 cS cN) (fun h1 h2 => h1.trans h2)
            (fun W l o o' hl ho h1 h2 => ⟨World.putObj_heap_other (by omega), World.putObj_heap_other (by omega)⟩) (Below.refl _ _) (fun _ => rfl)
            (WrI w F Ro w5.heap.size b3 (fun k => k = b3 ∨ k = b3 + 1 ∨ k = bS ∨ k = bS + 1) db size bm g s q hist) (fun _ _ _ => False)
            (WrI.own (by omega)) (fun _ _ _ _ _ hs _ _ => hs) HI0.out ?_ ?_ ?_ ?_ ?_
          rotate_left
          · intro l x W K hK
            simp only [encP]
            gi_wp2
            exact hK
          · rintro l pre x W hI hlen
            obtain ⟨F1, Ro1, es1, hv1, fs1, hd⟩ := hI.ex
            have i3 := hI.c3
            have i4 := hI.c4
            have hlx := x.2
            have hpl := histP_length hist s q pre
            have hel := hd.disk.len_le
            have hus := hd.disk.used_le
            have hbeh := behind_any s (pieceAt q x.1) g (x.1 * 512) (min 512 (q.length - x.1 * 512)) W.drew Ro1 (nameB_le hb) (by rw [pieceAt_length]; omega) (hd.inG (by omega)) (piece_cells hI.cg)
            rw [pieceAt_length] at hbeh
            have hmx : Tryz.prog.follows .mixedOrders = true := by kernel_rfl
            have HHD := Lib.hid hd
            have HHI := Lib.hid hI
            clear hd hI
            gi_wp2
            gi_region_with_o (first
              | (refine ⟨trivial, ?_⟩; gi_at_call 54; refine (CallsIn.inRound l (callsIn_wide.2 hbeh)).mono ?_; rintro e W2 ⟨f, rfl, hra, hbl⟩; have hcW2 := Lib.hid (((Chg.refl W (fun _ => False)).drew).trans (Chg.below hbl (fun _ => False)) (fun _ _ h => h)); have j3 := hcW2.out.cell (p := ⟨b3, 0, none⟩) (fun h => h) i3)
              | (refine ⟨trivial, ?_⟩; gi_at_call 40; have hRA := wr_raw HHD.out hra hbl (by omega); refine (CallsIn.inRound l (callsIn_wide.2 hRA)).mono ?_; rintro e W3 ⟨⟨v, rfl⟩, es3, hv3, hD3, hc3⟩))
            all_goals gi_wp2
            all_goals (try go_bits)
            all_goals (
              have hn := wr_next HHI.out HHD.out hcW2.out hc3 (HHD.out.off b3 (.inl rfl)) (HHD.out.off (b3 + 1) (.inr (.inl rfl))) (by omega) (by omega) (fun k hk => by omega) hb3 hD3
              exact ⟨hn.1, ⟨hn.2.1 bS (.inr (.inr (.inl rfl))), hn.2.1 (bS + 1) (.inr (.inr (.inr rfl)))⟩, hn.2.2⟩)
          · rintro D ys W hD ⟨k, rfl, hk⟩ hI hK
            go_wp2
            refine ⟨by simp, .inl ⟨_, _, rfl, run_takeDeferred hK, ?_⟩⟩
            refine ⟨_, results_tmp rfl _ _ _, ?_⟩
            have hI2 := WrI.own (by omega) _ _ _ _ hI (grownBy_putObj' W D (.deferred none)) (fun r e => by cases e; exact ⟨hD, _, hK, rfl⟩)
            obtain ⟨F1, Ro1, es1, hv1, fs1, hd⟩ := hI2.ex
            refine HR.out _ _ ⟨by rw [hwe]; rfl, F1, Ro1, es1, hv1, fs1, ?_, fun k hk => ?_, fun k hk => ?_, hI2.chg⟩
            · have e1 : hist ++ rawsW (fsOf es) size s q = histP hist s q (uptoP q.length k) := by
                unfold rawsW histP
                rw [hwe, if_pos rfl, uptoP_all hk]
                simp
              rw [e1]
              exact hd.disk
            · rw [hb3]; exact hd.inF k hk
            · rw [hb3]; exact hd.inR k hk
          · rintro D c pre W _ _ h _
            exact h.elim
end Go.Proofs.YtmldpehkacemfaaGreatDoor
