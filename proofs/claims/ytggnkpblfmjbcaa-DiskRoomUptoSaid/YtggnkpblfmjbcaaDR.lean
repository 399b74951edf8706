/-
  Walks: the chapter's disk; have two disks the same files?
-/
import Derived.Test.YtggnkpblfmjbcaaDQ
namespace Go.Proofs.Ytggnkpblfmjbcaa
open Go.RowKit Go.Bd
def zerosB (n : Nat) : Bs := List.replicate n 0
theorem zerosB_length (n : Nat) : (zerosB n).length = n := by unfold zerosB; simp
theorem u8L_zeros (n : Nat) : u8L (zerosB n) = List.replicate n (.int .u8 0) := by unfold u8L zerosB; simp
def nmA : ByteArray := ⟨#[97]⟩
def nmB : ByteArray := ⟨#[98]⟩
theorem nmA_ok : nameB nmA = true := by decide +kernel
theorem nmB_ok : nameB nmB = true := by decide +kernel
theorem nm_nil : nameB ⟨#[]⟩ = false := by decide +kernel
theorem lv_e0 : writeE (runR []) 2000 nmA (zerosB 600) = 0 := by
  unfold writeE
  rw [zerosB_length]
  simp [nmA_ok, runR, getB, usedB]
theorem lv_h1 : rawsW (runR []) 2000 nmA (zerosB 600) = [.empty nmA, .behind nmA (pieceAt (zerosB 600) 0), .behind nmA (pieceAt (zerosB 600) 1)] := by
  unfold rawsW
  rw [if_pos lv_e0]
  unfold chunksB
  rw [zerosB_length]
  rfl
theorem lv_r1 : runR ([] ++ rawsW (runR []) 2000 nmA (zerosB 600)) = [(nmA, zerosB 600)] := by
  rw [run_rawsW, if_pos lv_e0]
  rfl
theorem lv_u1 : usedB [(nmA, zerosB 600)] = 600 := by simp [usedB, zerosB_length]
theorem lv_r2 : readB (runR (([] ++ rawsW (runR []) 2000 nmA (zerosB 600)).take 2)) nmA = (pieceAt (zerosB 600) 0, 0) := by
  rw [lv_h1]
  have h : runR (([] ++ [Raw.empty nmA, .behind nmA (pieceAt (zerosB 600) 0), .behind nmA (pieceAt (zerosB 600) 1)]).take 2) = setB [] nmA (pieceAt (zerosB 600) 0) := by
    show (Raw.behind nmA (pieceAt (zerosB 600) 0)).app (setB [] nmA []) = _
    unfold Raw.app
    simp only [getB_set_same, Option.getD_some, setB_setB, List.nil_append]
  rw [h]
  unfold readB
  rw [if_pos nmA_ok, getB_set_same]
theorem ab_ne : ¬ nmA = nmB := by decide
theorem lv_e2 : writeE [(nmA, zerosB 600)] 2000 nmB (zerosB 1401) = 6 := by
  unfold writeE
  rw [if_pos nmB_ok, lv_u1, zerosB_length]
  have h : getB [(nmA, zerosB 600)] nmB = none := by simp [getB, ab_ne]
  rw [h]
  simp
theorem lv_e3 : removeE [(nmA, zerosB 600)] nmB = 5 := by
  unfold removeE
  rw [if_pos nmB_ok]
  have h : getB [(nmA, zerosB 600)] nmB = none := by simp [getB, ab_ne]
  rw [h]
  rfl
theorem lv_e4 (fs : Fs) (size : Nat) (q : Bs) : writeE fs size ⟨#[]⟩ q = 1 := by
  unfold writeE
  rw [if_neg (by rw [nm_nil]; decide)]
theorem cut_ok {w : World} {F Ro : Nat → Prop} {db size : Nat} {hist : List Raw} (h : Dk w F Ro db size hist) (m : Nat) (L : Int) (hL : L = (m : Int)) (hm : m ≤ hist.length) (hh : hist.length + 2 ≤ 900000) (hsz : size ≤ 8388608) :
    Calls Try.prog 11 #[.pointer (some ⟨db, 0, none⟩), .int .i64 L] w fun e w' =>
      ∃ ndb, e = .returned (.tuple #[.pointer (some ⟨ndb, 0, none⟩), .int .i64 0]) ∧ Dk w' (fun k => w.heap.size ≤ k ∧ k < w'.heap.size) Ro ndb size (hist.take m) ∧ Below w.heap.size w w' := by
  subst hL
  refine (cut_dk h m hh hsz).mono ?_
  intro e w' hp
  rw [if_neg (by omega)] at hp
  simpa using hp
/-- make([]byte, n) -/
theorem make_zeros (w : World) (F : Nat → Prop) (hF : ¬ F w.heap.size) (L : Int) (n : Nat) (hL : L = (n : Int)) (hn : n ≤ 100000000) : ∃ w', (Instr.makeSlice 30 (.int .i64 L) (.int .i64 L)).run Try.prog w = .ok (.slice (some ⟨w.heap.size, 0, none⟩) n n) w' ∧ InB w' F (some ⟨w.heap.size, 0, none⟩) (zerosB n) ∧ Below w.heap.size w w' := by
  obtain ⟨i0, hi, hz0, hz1, hz2⟩ := info_parts info_u8
  subst hL
  obtain ⟨w', h1, h2, h3⟩ := run_make_full w w.heap.size 30 5 i0 (.int .u8 0) 1 under_bytes hi hz0 hz1 .i64 .i64 n (by rw [hz2]; omega) (by simp only [maxLen]; omega) (Nat.le_refl _)
  refine ⟨w', h1, .inr ⟨w.heap.size, 0, rfl, hF, fun j u hj => ?_⟩, (Below.refl _ _).grown h3 (Nat.le_refl _) (fun k h => by cases h)⟩
  have e : (madeCells (Value.int IntKind.u8 0).cells (n * 1)).toList = u8L (zerosB n) := by
    have e1 : (Value.int IntKind.u8 0).cells = #[Value.int IntKind.u8 0] := rfl
    rw [e1, Nat.mul_one, toList_madeCells_one, u8L_zeros]
  rw [e] at h2
  have := h2.cells (g := w.heap.size) rfl j u hj
  rwa [add_addr] at this
set_option maxRecDepth 100000 in
set_option maxHeartbeats 2000000 in
/-- **the chapter's disk lives** -/
theorem lives_any (w : World) : Calls Try.prog 6 #[] w fun e w' => e = .returned (.bool true) ∧ Below w.heap.size w w' := by
  go_enter Try.func6, Try.ntmps6
  go_wp2_with (go_at_call 7; refine (new_dk 2000 (by omega) _).mono ?_; rintro e w1 ⟨db, rfl, hd1, hb1⟩; have hs1 := hb1.size; obtain ⟨w2, hm2, hi2, hb2⟩ := make_zeros w1 (fun k => w.heap.size ≤ k ∧ k < w1.heap.size) (fun h => by omega) 600 600 rfl (by omega); have hw := write_dk (hd1.below hb2) nmA (by decide) (zerosB 600) (some ⟨w1.heap.size, 0, none⟩) 600 hi2 (by rw [zerosB_length]; omega) (by rw [zerosB_length]; omega) (by rw [zerosB_length]; simp) (by omega); rw [zerosB_length, lv_e0] at hw; have hs2 := hb2.size; go_wp2_with (go_at_call 9; refine hw.mono ?_; rintro e w3 ⟨rfl, F3, R3, hd3, hF3, hR3, hc3⟩))
  have hl3 : ([] ++ rawsW (runR []) 2000 nmA (zerosB 600)).length = 3 := by rw [lv_h1]; rfl
  have hwr := writes_dk hd3
  have hus := used_dk hd3
  rw [hl3] at hwr
  rw [lv_r1, lv_u1] at hus
  have hct := cut_ok hd3 2 2 rfl (by rw [hl3]; omega) (by rw [hl3]; omega) (by omega)
  have hb3 : Below w.heap.size w w3 := (hb1.trans (hb2.mono hs1)).trans (hc3.toBelow (by omega) (fun k hk => hk.1))
  have hs3 := hb3.size
  have hs23 := hc3.size
  clear hw hb1 hb2 hc3
  go_wp2_with (first
    | (go_at_call 10; refine hwr.mono ?_; rintro e w4 ⟨rfl, rfl⟩)
    | (go_at_call 15; refine hus.mono ?_; rintro e w4 ⟨rfl, rfl⟩)
    | (go_at_call 11; refine hct.mono ?_; rintro e w5 ⟨dc, rfl, hdc, hb5⟩))
  have hr := read_dk hdc nmA (by decide) (by rw [lv_h1]; simp)
  rw [lv_r2] at hr
  have hr1 := lv_r1
  generalize [] ++ rawsW (runR []) 2000 nmA (zerosB 600) = h1 at hr1 hd3 hl3
  have hd5 := hd3.below hb5
  have hs5 := hb5.size
  have hp0 : (pieceAt (zerosB 600) 0).length = 512 := by rw [pieceAt_length, zerosB_length]; rfl
  clear hwr hus hct hdc hd1 hi2 hm2
  have hb05 := hb3.trans (hb5.mono hs3)
  clear hb3 hb5
  go_wp2_with (
    go_at_call 13; refine hr.mono ?_; rintro e w6 ⟨v6, rfl, ho6, hb6⟩
    have hs6 := hb6.size
    obtain ⟨A6, c6, rfl, _⟩ := own_slice ho6
    rw [hp0]
    clear hr ho6
    have hd6 := hd5.below hb6
    obtain ⟨w7, hm7, hi7, hb7⟩ := make_zeros w6 F3 (fun h => by have := hd6.ltF _ h; omega) 1401 1401 rfl (by omega)
    have hs7 := hb7.size
    have hd7 := hd6.below hb7
    have hw := write_dk hd7 nmB (by decide) (zerosB 1401) (some ⟨w6.heap.size, 0, none⟩) 1401 hi7 (by rw [zerosB_length]; omega) (by rw [zerosB_length]; omega) (by rw [zerosB_length, hl3]; omega) (by omega)
    have hrw : rawsW (runR h1) 2000 nmB (zerosB 1401) = [] := by unfold rawsW; rw [hr1, if_neg (by rw [lv_e2]; decide)]
    rw [zerosB_length, hrw, List.append_nil, hr1, lv_e2] at hw
    have hb7' := (hb05.trans (hb6.mono (by omega))).trans (hb7.mono (by omega))
    clear hi7 hd6 hd7 hb6 hb7 hd5 hb05
    go_wp2_with (go_at_call 9; refine hw.mono ?_; rintro e w8 ⟨rfl, F8, R8, hd8, hF8, hR8, hc8⟩))
  clear hw hm7
  have hb8 := hb7'.trans (hc8.toBelow (by omega) (fun k hk => by have := hF3 k hk; omega))
  have hs8 := hc8.size
  have hw := remove_dk hd8 nmB (by decide) (by omega)
  have hrw2 : rawsD (runR h1) nmB = [] := by unfold rawsD; rw [hr1, if_neg (by rw [lv_e3]; decide)]
  rw [hrw2, List.append_nil, hr1, lv_e3] at hw
  clear hc8 hb7'
  go_wp2_with (go_at_call 8; refine hw.mono ?_; rintro e w9 ⟨rfl, F9, R9, hd9, hF9, hR9, hc9⟩)
  clear hw
  have hF8' : ∀ k, F8 k → w.heap.size ≤ k := fun k hk => by
    rcases hF8 k hk with h | h
    · have := hF3 k h; omega
    · omega
  have hF9' : ∀ k, F9 k → w.heap.size ≤ k := fun k hk => by
    rcases hF9 k hk with h | h
    · exact hF8' k h
    · omega
  have hb9 := hb8.trans (hc9.toBelow (by omega) hF8')
  have hs9 := hc9.size
  have hw := write_dk hd9 ⟨#[]⟩ (by decide) [] none 0 (.inl rfl) (by simp) (Nat.le_refl _) (by rw [hl3]; simp) (by omega)
  have hrw3 : rawsW (runR h1) 2000 ⟨#[]⟩ [] = [] := by unfold rawsW; rw [if_neg (by rw [lv_e4]; decide)]
  rw [hrw3, List.append_nil, lv_e4, List.length_nil] at hw
  clear hc9 hb8
  go_wp2_with (go_at_call 9; refine hw.mono ?_; rintro e w10 ⟨rfl, F10, R10, hd10, hF10, hR10, hc10⟩)
  clear hw
  have hb10 := hb9.trans (hc10.toBelow (by omega) hF9')
  have hs10 := hc10.size
  have hus := used_dk hd10
  rw [hr1, lv_u1] at hus
  clear hc10 hb9
  go_wp2_with (first
    | (go_at_call 15; refine hus.mono ?_; rintro e w11 ⟨rfl, rfl⟩)
    | (go_at_call 9; refine (write_nil _ _ _).mono ?_; rintro e w12 ⟨rfl, hb12⟩)
    | (go_at_call 10; refine (writes_nil _).mono ?_; rintro e w13 ⟨rfl, rfl⟩))
  go_ret
  exact ⟨rfl, hb10.trans (hb12.mono (by omega))⟩
end Go.Proofs.Ytggnkpblfmjbcaa
