/-
  What the chapter's laws share, part 7: plain facts, memory, and walks of functions. Its conditions: those that each theorem names.
-/
import Derived.BigQuiet
import Derived.Test.YtggnkpblfmjbcaaGreatDoorK6
set_option linter.unusedSimpArgs false
set_option linter.unusedVariables false
namespace Go.Proofs.YtggnkpblfmjbcaaGreatDoor
open Go.RowKit Go.Bd
def zerosB (n : Nat) : Bs := List.replicate n 0
theorem zerosB_length (n : Nat) : (zerosB n).length = n := by unfold zerosB; simp
theorem u8L_zeros (n : Nat) : u8L (zerosB n) = List.replicate n (.int .u8 0) := by unfold u8L zerosB; simp
def nmA : ByteArray := ⟨#[97]⟩
def nmB : ByteArray := ⟨#[98]⟩
theorem nmA_ok : nameB nmA = true := by decide +kernel
theorem nmB_ok : nameB nmB = true := by decide +kernel
theorem nm_nil : nameB ⟨#[]⟩ = false := by decide +kernel
theorem lv_e0 : writeE (runR []) 2000 nmA (zerosB 600) = 0 := by
  unfold writeE
  rw [zerosB_length]
  simp [nmA_ok, runR, getB, usedB]
theorem lv_h1 : rawsW (runR []) 2000 nmA (zerosB 600) = [.empty nmA, .behind nmA (pieceAt (zerosB 600) 0), .behind nmA (pieceAt (zerosB 600) 1)] := by
  unfold rawsW
  rw [if_pos lv_e0]
  unfold chunksB
  rw [zerosB_length]
  rfl
theorem lv_r1 : runR ([] ++ rawsW (runR []) 2000 nmA (zerosB 600)) = [(nmA, zerosB 600)] := by
  rw [run_rawsW, if_pos lv_e0]
  rfl
theorem lv_u1 : usedB [(nmA, zerosB 600)] = 600 := by simp [usedB, zerosB_length]
theorem lv_r2 : readB (runR (([] ++ rawsW (runR []) 2000 nmA (zerosB 600)).take 2)) nmA = (pieceAt (zerosB 600) 0, 0) := by
  rw [lv_h1]
  have h : runR (([] ++ [Raw.empty nmA, .behind nmA (pieceAt (zerosB 600) 0), .behind nmA (pieceAt (zerosB 600) 1)]).take 2) = setB [] nmA (pieceAt (zerosB 600) 0) := by
    show (Raw.behind nmA (pieceAt (zerosB 600) 0)).app (setB [] nmA []) = _
    unfold Raw.app
    simp only [getB_set_same, Option.getD_some, setB_setB, List.nil_append]
  rw [h]
  unfold readB
  rw [if_pos nmA_ok, getB_set_same]
theorem ab_ne : ¬ nmA = nmB := by decide
theorem lv_e2 : writeE [(nmA, zerosB 600)] 2000 nmB (zerosB 1401) = 6 := by
  unfold writeE
  rw [if_pos nmB_ok, lv_u1, zerosB_length]
  have h : getB [(nmA, zerosB 600)] nmB = none := by simp [getB, ab_ne]
  rw [h]
  simp
theorem lv_e3 : removeE [(nmA, zerosB 600)] nmB = 5 := by
  unfold removeE
  rw [if_pos nmB_ok]
  have h : getB [(nmA, zerosB 600)] nmB = none := by simp [getB, ab_ne]
  rw [h]
  rfl
theorem lv_e4 (fs : Fs) (size : Nat) (q : Bs) : writeE fs size ⟨#[]⟩ q = 1 := by
  unfold writeE
  rw [if_neg (by rw [nm_nil]; decide)]
theorem cut_ok {w : World} {F Ro : Nat → Prop} {db size : Nat} {hist : List Raw} (h : Dk w F Ro db size hist) (m : Nat) (L : Int) (hL : L = (m : Int)) (hm : m ≤ hist.length) (hh : hist.length + 2 ≤ 900000) (hsz : size ≤ 8388608) :
    Calls Tryz.prog 15 #[.pointer (some ⟨db, 0, none⟩), .int .i64 L] w fun e w' =>
      ∃ ndb, e = .returned (.tuple #[.pointer (some ⟨ndb, 0, none⟩), .int .i64 0]) ∧ Dk w' (fun k => w.heap.size ≤ k ∧ k < w'.heap.size) Ro ndb size (hist.take m) ∧ Below w.heap.size w w' := by
  subst hL
  refine (cut_dk h m hh hsz).mono ?_
  intro e w' hp
  rw [if_neg (by omega)] at hp
  simpa using hp
theorem make_zeros (w : World) (F : Nat → Prop) (hF : ¬ F w.heap.size) (L : Int) (n : Nat) (hL : L = (n : Int)) (hn : n ≤ 100000000) : ∃ w', (Instr.makeSlice 55 (.int .i64 L) (.int .i64 L)).run Tryz.prog w = .ok (.slice (some ⟨w.heap.size, 0, none⟩) n n) w' ∧ InB w' F (some ⟨w.heap.size, 0, none⟩) (zerosB n) ∧ Below w.heap.size w w' := by
  obtain ⟨i0, hi, hz0, hz1, hz2⟩ := info_parts info_u8
  subst hL
  obtain ⟨w', h1, h2, h3⟩ := run_make_full w w.heap.size 55 5 i0 (.int .u8 0) 1 under_bytes hi hz0 hz1 .i64 .i64 n (by rw [hz2]; omega) (by simp only [maxLen]; omega) (Nat.le_refl _)
  refine ⟨w', h1, .inr ⟨w.heap.size, 0, rfl, hF, fun j u hj => ?_⟩, (Below.refl _ _).grown h3 (Nat.le_refl _) (fun k h => by cases h)⟩
  have e : (madeCells (Value.int IntKind.u8 0).cells (n * 1)).toList = u8L (zerosB n) := by
    have e1 : (Value.int IntKind.u8 0).cells = #[Value.int IntKind.u8 0] := rfl
    rw [e1, Nat.mul_one, toList_madeCells_one, u8L_zeros]
  rw [e] at h2
  have := h2.cells (g := w.heap.size) rfl j u hj
  rwa [add_addr] at this
set_option maxRecDepth 100000 in
set_option maxHeartbeats 2000000 in
theorem lives_any (w : World) : Calls Tryz.prog 5 #[] w fun e w' => e = .returned (.bool true) ∧ Below w.heap.size w w' := by
  go_enter Tryz.func5, Tryz.ntmps5
  go_wp2_with (go_at_call 6; refine (new_dk 2000 (by omega) _).mono ?_; rintro e w1 ⟨db, rfl, hd1, hb1⟩; have hs1 := hb1.size; obtain ⟨w2, hm2, hi2, hb2⟩ := make_zeros w1 (fun k => w.heap.size ≤ k ∧ k < w1.heap.size) (fun h => by omega) 600 600 rfl (by omega); have hw := write_dk (hd1.below hb2) nmA (by decide) (zerosB 600) (some ⟨w1.heap.size, 0, none⟩) 600 hi2 (by rw [zerosB_length]; omega) (by rw [zerosB_length]; omega) (by rw [zerosB_length]; simp) (by omega); rw [zerosB_length, lv_e0] at hw; have hs2 := hb2.size; go_wp2_with (go_at_call 8; refine hw.mono ?_; rintro e w3 ⟨rfl, F3, R3, hd3, hF3, hR3, hc3⟩))
  have hl3 : ([] ++ rawsW (runR []) 2000 nmA (zerosB 600)).length = 3 := by rw [lv_h1]; rfl
  have hwr := writes_dk hd3
  have hus := used_dk hd3
  rw [hl3] at hwr
  rw [lv_r1, lv_u1] at hus
  have hct := cut_ok hd3 2 2 rfl (by rw [hl3]; omega) (by rw [hl3]; omega) (by omega)
  have hb3 : Below w.heap.size w w3 := (hb1.trans (hb2.mono hs1)).trans (hc3.toBelow (by omega) (fun k hk => hk.1))
  have hs3 := hb3.size
  have hs23 := hc3.size
  clear hw hb1 hb2 hc3
  go_wp2_with (first
    | (go_at_call 10; refine hwr.mono ?_; rintro e w4 ⟨rfl, rfl⟩)
    | (go_at_call 9; refine hus.mono ?_; rintro e w4 ⟨rfl, rfl⟩)
    | (go_at_call 15; refine hct.mono ?_; rintro e w5 ⟨dc, rfl, hdc, hb5⟩))
  have hr := read_dk hdc nmA (by decide) (by rw [lv_h1]; simp)
  rw [lv_r2] at hr
  have hr1 := lv_r1
  generalize [] ++ rawsW (runR []) 2000 nmA (zerosB 600) = h1 at hr1 hd3 hl3
  have hd5 := hd3.below hb5
  have hs5 := hb5.size
  have hp0 : (pieceAt (zerosB 600) 0).length = 512 := by rw [pieceAt_length, zerosB_length]; rfl
  clear hwr hus hct hdc hd1 hi2 hm2
  have hb05 := hb3.trans (hb5.mono hs3)
  clear hb3 hb5
  go_wp2_with (
    go_at_call 18; refine hr.mono ?_; rintro e w6 ⟨v6, rfl, ho6, hb6⟩
    have hs6 := hb6.size
    obtain ⟨A6, c6, rfl, _⟩ := own_slice ho6
    rw [hp0]
    clear hr ho6
    have hd6 := hd5.below hb6
    obtain ⟨w7, hm7, hi7, hb7⟩ := make_zeros w6 F3 (fun h => by have := hd6.ltF _ h; omega) 1401 1401 rfl (by omega)
    have hs7 := hb7.size
    have hd7 := hd6.below hb7
    have hw := write_dk hd7 nmB (by decide) (zerosB 1401) (some ⟨w6.heap.size, 0, none⟩) 1401 hi7 (by rw [zerosB_length]; omega) (by rw [zerosB_length]; omega) (by rw [zerosB_length, hl3]; omega) (by omega)
    have hrw : rawsW (runR h1) 2000 nmB (zerosB 1401) = [] := by unfold rawsW; rw [hr1, if_neg (by rw [lv_e2]; decide)]
    rw [zerosB_length, hrw, List.append_nil, hr1, lv_e2] at hw
    have hb7' := (hb05.trans (hb6.mono (by omega))).trans (hb7.mono (by omega))
    clear hi7 hd6 hd7 hb6 hb7 hd5 hb05
    go_wp2_with (go_at_call 8; refine hw.mono ?_; rintro e w8 ⟨rfl, F8, R8, hd8, hF8, hR8, hc8⟩))
  clear hw hm7
  have hb8 := hb7'.trans (hc8.toBelow (by omega) (fun k hk => by have := hF3 k hk; omega))
  have hs8 := hc8.size
  have hw := remove_dk hd8 nmB (by decide) (by omega)
  have hrw2 : rawsD (runR h1) nmB = [] := by unfold rawsD; rw [hr1, if_neg (by rw [lv_e3]; decide)]
  rw [hrw2, List.append_nil, hr1, lv_e3] at hw
  clear hc8 hb7'
  go_wp2_with (go_at_call 13; refine hw.mono ?_; rintro e w9 ⟨rfl, F9, R9, hd9, hF9, hR9, hc9⟩)
  clear hw
  have hF8' : ∀ k, F8 k → w.heap.size ≤ k := fun k hk => by
    rcases hF8 k hk with h | h
    · have := hF3 k h; omega
    · omega
  have hF9' : ∀ k, F9 k → w.heap.size ≤ k := fun k hk => by
    rcases hF9 k hk with h | h
    · exact hF8' k h
    · omega
  have hb9 := hb8.trans (hc9.toBelow (by omega) hF8')
  have hs9 := hc9.size
  have hw := write_dk hd9 ⟨#[]⟩ (by decide) [] none 0 (.inl rfl) (by simp) (Nat.le_refl _) (by rw [hl3]; simp) (by omega)
  have hrw3 : rawsW (runR h1) 2000 ⟨#[]⟩ [] = [] := by unfold rawsW; rw [if_neg (by rw [lv_e4]; decide)]
  rw [hrw3, List.append_nil, lv_e4, List.length_nil] at hw
  clear hc9 hb8
  go_wp2_with (go_at_call 8; refine hw.mono ?_; rintro e w10 ⟨rfl, F10, R10, hd10, hF10, hR10, hc10⟩)
  clear hw
  have hb10 := hb9.trans (hc10.toBelow (by omega) hF9')
  have hs10 := hc10.size
  have hus := used_dk hd10
  rw [hr1, lv_u1] at hus
  clear hc10 hb9
  go_wp2_with (first
    | (go_at_call 9; refine hus.mono ?_; rintro e w11 ⟨rfl, rfl⟩)
    | (go_at_call 8; refine (write_nil _ _ _).mono ?_; rintro e w12 ⟨rfl, hb12⟩)
    | (go_at_call 10; refine (writes_nil _).mono ?_; rintro e w13 ⟨rfl, rfl⟩))
  go_ret
  exact ⟨rfl, hb10.trans (hb12.mono (by omega))⟩
end Go.Proofs.YtggnkpblfmjbcaaGreatDoor
namespace Go.Proofs.YtggnkpblfmjbcaaGreatDoor
open Go.RowKit Go.Bd
structure Ac where
  kind : Nat
  name : ByteArray
  b : Bs
  pos : Int
def acCells (x : Ac) (bv : Value) : List Value := [.int .u8 (x.kind : Int), .string x.name, bv, .int .i64 x.pos]
def ActsAt (w : World) (B : Nat) (v : Value) (l : List Ac) : Prop :=
  ∃ A c, ∃ bvs : List Value, v = .slice A l.length c ∧ l.length ≤ c ∧ bvs.length = l.length ∧ (l ≠ [] → ∃ b off, A = some ⟨b, off, none⟩ ∧ b < B ∧ ∀ (j : Nat) x bv, l[j]? = some x → bvs[j]? = some bv → ∀ (i : Nat) u, (acCells x bv)[i]? = some u → w.cell? ⟨b, off + j * 4 + i, none⟩ = some u) ∧
    ∀ (j : Nat) x bv, l[j]? = some x → bvs[j]? = some bv → BytesR w B bv x.b
theorem ActsAt.form {w : World} {B : Nat} {v : Value} {l : List Ac} (h : ActsAt w B v l) : ∃ A c, v = .slice A l.length c ∧ l.length ≤ c ∧ ∀ (j : Nat) x, l[j]? = some x → ∃ b off A' c', A = some ⟨b, off, none⟩ ∧ b < B ∧
    w.cell? ⟨b, off + j * 4, none⟩ = some (.int .u8 (x.kind : Int)) ∧ w.cell? ⟨b, off + j * 4 + 1, none⟩ = some (.string x.name) ∧ w.cell? ⟨b, off + j * 4 + 2, none⟩ = some (.slice A' x.b.length c') ∧ w.cell? ⟨b, off + j * 4 + 3, none⟩ = some (.int .i64 x.pos) ∧
    x.b.length ≤ c' ∧ (x.b = [] ∨ ∃ g o, A' = some ⟨g, o, none⟩ ∧ g < B ∧ ∀ (i : Nat) u, (u8L x.b)[i]? = some u → w.cell? ⟨g, o + i, none⟩ = some u) := by
  obtain ⟨A, c, bvs, rfl, hc, hl, hA, hb⟩ := h
  refine ⟨A, c, rfl, hc, fun j x hj => ?_⟩
  have hjl := (List.getElem?_eq_some_iff.1 hj).1
  obtain ⟨bv, hbv⟩ : ∃ bv, bvs[j]? = some bv := ⟨_, List.getElem?_eq_getElem (by omega)⟩
  obtain ⟨b, off, rfl, hbB, hcell⟩ := hA (fun e => by rw [e] at hj; simp at hj)
  have hR := hb j x bv hj hbv
  obtain ⟨A', c', rfl, hc', hrc⟩ := hR
  rw [u8L_length] at hc'
  have hcs := hcell j x _ hj hbv
  refine ⟨b, off, A', c', rfl, hbB, hcs 0 _ rfl, hcs 1 _ rfl, ?_, hcs 3 _ rfl, hc', ?_⟩
  · have := hcs 2 _ rfl
    rwa [u8L_length] at this
  · by_cases h0 : x.b = []
    · exact .inl h0
    · obtain ⟨g, o, h1, h2, h3⟩ := hrc (by rw [u8L_length]; exact List.length_pos_iff.2 h0)
      exact .inr ⟨g, o, h1, h2, h3⟩
def weigh (l : List Ac) : Nat := (l.map fun x => 1 + x.b.length + x.name.size).sum
def greatA (l : List Ac) : Bool := decide (100 < l.length) || decide (60000 < weigh l)
theorem weigh_take {l : List Ac} {k : Nat} {x : Ac} (h : l[k]? = some x) : weigh (l.take (k + 1)) = weigh (l.take k) + (1 + x.b.length + x.name.size) := by
  rw [List.take_add_one, h]
  unfold weigh
  simp
theorem weigh_take_le (l : List Ac) (k : Nat) : weigh (l.take k) ≤ weigh l := by
  have h : l.take k ++ l.drop k = l := List.take_append_drop k l
  have e : weigh l = weigh (l.take k) + weigh (l.drop k) := by
    conv => lhs; rw [← h]
    unfold weigh
    rw [List.map_append, List.sum_append]
  omega
theorem weigh_length (l : List Ac) : l.length ≤ weigh l := by
  unfold weigh
  induction l with
  | nil => simp
  | cons a l ih => simp only [List.map_cons, List.sum_cons, List.length_cons]; omega
set_option maxRecDepth 100000 in
set_option maxHeartbeats 2000000 in
theorem great_any (v : Value) (l : List Ac) (w : World) (B : Nat) (h : ActsAt w B v l) (hw : weigh l ≤ 1048576) :
    Calls Tryz.prog 4 #[v] w fun e w' => e = .returned (.bool (greatA l)) ∧ Below w.heap.size w w' := by
  obtain ⟨A, c, rfl, hc, f⟩ := h.form
  have F := Lib.hid f
  have hll := weigh_length l
  have WL := Lib.hid (weigh_take_le l)
  clear h f
  unfold greatA
  generalize hn : l.length = n at hc hll ⊢
  have HN := Lib.hid hn
  clear hn
  go_enter Tryz.func4, Tryz.ntmps4
  go_wp2
  go_loopg [3, 4] n (fun q vn vi wr => ∃ k : Nat, k + q = n ∧ vi = .int .i64 (k : Int) ∧ vn = .int .i64 (weigh (l.take k) : Int) ∧ Below w.heap.size w wr ∧ ∀ p : Addr, wr.cell? p = w.cell? p)
  case atStart => exact ⟨0, by omega, rfl, by simp [weigh], Below.refl _ _, fun _ => rfl⟩
  case round =>
    obtain ⟨k, hk, rfl, rfl, hbl, hcell⟩ := hrel
    by_cases hlt : k < n
    · obtain ⟨x, hx⟩ : ∃ x, l[k]? = some x := ⟨_, List.getElem?_eq_getElem (by rw [HN.out]; exact hlt)⟩
      obtain ⟨b, off, A', c', rfl, _, c0, c1, c2, c3, hc', _⟩ := F.out k x hx
      replace c1 := (hcell _).trans c1
      replace c2 := (hcell _).trans c2
      have hwt := weigh_take hx
      have hwl := WL.out (k + 1)
      rw [hwt] at hwl
      generalize hm : weigh (l.take k) = m at hwt hwl ⊢
      generalize hs : x.name.size = sz at hwt hwl
      generalize hbn : x.b.length = bn at hwt hwl c2 hc'
      have HWT := Lib.hid hwt
      have HC := Lib.hid hcell
      have HS := Lib.hid hs
      clear hcell c0 c3 hx hwt
      go_wp2
      go_quiet (fail)
      go_wp2
      have hb2 := Go.below_drewN hbl nq
      go_roundg (gk - 1)
      case measure => omega
      case rel => exact ⟨k + 1, by omega, by go_num, by rw [HWT.out]; congr 1; omega, hb2, fun p => HC.out p⟩
    · obtain rfl : k = n := by omega
      have ht : l.take k = l := List.take_of_length_le (by rw [HN.out]; exact Nat.le_refl _)
      rw [ht]
      clear hcell
      by_cases h1 : 100 < k
      · go_wp2
        go_ret
        refine ⟨?_, hbl⟩
        simp [h1]
      · go_wp2
        go_ret
        refine ⟨?_, hbl⟩
        simp [h1]
        have e1 : decide ((100 : Int) < (k : Int)) = false := decide_eq_false (by omega)
        rw [e1, Bool.false_or]
        exact decide_eq_decide.2 (by omega)
end Go.Proofs.YtggnkpblfmjbcaaGreatDoor
namespace Go.Proofs.YtggnkpblfmjbcaaGreatDoor
open Go.RowKit Go.Bd
def baOf (x : List UInt8) : ByteArray := ⟨⟨x⟩⟩
theorem encs_map (ns : List (List UInt8)) : ns.map Go.Proofs.encStr = (ns.map baOf).map Value.string := by
  rw [List.map_map]
  rfl
structure PlAt (w W : World) (size db rdb bk : Nat) (hd hr : List Raw) (n : Nat) (X F1 R1 O2 F2 M : Nat → Prop) : Prop where
  d : Dk W F1 R1 db size hd
  m : Rk W O2 F2 rdb size hr
  b : Kept w W bk n M
  ge1 : ∀ k, F1 k → w.heap.size ≤ k
  ge2 : ∀ k, O2 k → w.heap.size ≤ k
  ge3 : ∀ k, M k → w.heap.size ≤ k
  arg : ∀ k, k < w.heap.size → F2 k
  dr : ∀ k, F1 k ∨ R1 k → ¬ (O2 k ∨ F2 k)
  dm : ∀ k, F1 k ∨ R1 k → ¬ M k
  rm : ∀ k, O2 k ∨ F2 k → ¬ M k
  xd : ∀ k, X k → ¬ F1 k ∧ ¬ R1 k
  xr : ∀ k, X k → ¬ O2 k ∧ ¬ F2 k
  xm : ∀ k, X k → ¬ M k
  xl : ∀ k, X k → k < W.heap.size
def Pl (w W : World) (size db rdb bk : Nat) (hd hr : List Raw) (n : Nat) (X : Nat → Prop) : Prop := ∃ F1 R1 O2 F2 M, PlAt w W size db rdb bk hd hr n X F1 R1 O2 F2 M
theorem Rk.ltO {w : World} {O F : Nat → Prop} {db size : Nat} {h : List Raw} (H : Rk w O F db size h) : ∀ k, O k → k < w.heap.size := by
  obtain ⟨lv, rv, H⟩ := H
  exact H.ltO
theorem Rk.ltF {w : World} {O F : Nat → Prop} {db size : Nat} {h : List Raw} (H : Rk w O F db size h) : ∀ k, F k → k < w.heap.size := by
  obtain ⟨lv, rv, H⟩ := H
  exact H.ltF
section
variable {w W W' : World} {size db rdb bk n : Nat} {hd hr : List Raw} {X X' : Nat → Prop}
theorem Pl.hb (h : Pl w W size db rdb bk hd hr n X) : Below w.heap.size w W := by
  obtain ⟨F1, R1, O2, F2, M, h⟩ := h
  exact h.b.below
theorem Pl.less (h : Pl w W size db rdb bk hd hr n X) (hx : ∀ k, X' k → X k) : Pl w W size db rdb bk hd hr n X' := by
  obtain ⟨F1, R1, O2, F2, M, h⟩ := h
  exact ⟨F1, R1, O2, F2, M, h.d, h.m, h.b, h.ge1, h.ge2, h.ge3, h.arg, h.dr, h.dm, h.rm, fun k hk => h.xd k (hx k hk), fun k hk => h.xr k (hx k hk), fun k hk => h.xm k (hx k hk), fun k hk => h.xl k (hx k hk)⟩
theorem Pl.fresh (h : Pl w W size db rdb bk hd hr n X) (hb : Below W.heap.size W W') : Pl w W' size db rdb bk hd hr n (fun k => X k ∨ (W.heap.size ≤ k ∧ k < W'.heap.size)) := by
  obtain ⟨F1, R1, O2, F2, M, h⟩ := h
  have l1 := h.d.ltF
  have l2 := h.d.ltR
  have l3 := h.m.ltO
  have l4 := h.m.ltF
  have l5 := h.b.lt
  have hs := hb.size
  refine ⟨F1, R1, O2, F2, M, h.d.below hb, h.m.below hb, h.b.keep hb, h.ge1, h.ge2, h.ge3, h.arg, h.dr, h.dm, h.rm, fun k hk => ?_, fun k hk => ?_, fun k hk => ?_, fun k hk => ?_⟩
  · rcases hk with hk | hk
    · exact h.xd k hk
    · exact ⟨fun e => by have := l1 k e; omega, fun e => by have := l2 k e; omega⟩
  · rcases hk with hk | hk
    · exact h.xr k hk
    · exact ⟨fun e => by have := l3 k e; omega, fun e => by have := l4 k e; omega⟩
  · rcases hk with hk | hk
    · exact h.xm k hk
    · exact fun e => by have := l5 k e; omega
  · rcases hk with hk | hk
    · have := h.xl k hk; omega
    · exact hk.2
theorem Pl.keep (h : Pl w W size db rdb bk hd hr n X) (hb : Below W.heap.size W W') : Pl w W' size db rdb bk hd hr n X := (h.fresh hb).less (fun _ hk => .inl hk)
theorem Pl.disk (h : Pl w W size db rdb bk hd hr n X) : ∃ F1 R1, Dk W F1 R1 db size hd ∧ (∀ k, F1 k → w.heap.size ≤ k ∧ ¬ X k) ∧
    ∀ (W' : World) (F' R' : Nat → Prop) (db' : Nat) (hd' : List Raw), Dk W' F' R' db' size hd' → (∀ k, F' k → F1 k ∨ W.heap.size ≤ k) → (∀ k, R' k → R1 k ∨ W.heap.size ≤ k) → Chg W W' F1 → Pl w W' size db' rdb bk hd' hr n X := by
  obtain ⟨F1, R1, O2, F2, M, h⟩ := h
  refine ⟨F1, R1, h.d, fun k hk => ⟨h.ge1 k hk, fun hx => (h.xd k hx).1 hk⟩, fun W' F' R' db' hd' D iF iR hc => ?_⟩
  have l3 := h.m.ltO
  have l4 := h.m.ltF
  have l5 := h.b.lt
  have hs := hc.size
  have hbs := h.b.below.size
  have hin : ∀ k, F' k ∨ R' k → (F1 k ∨ R1 k) ∨ W.heap.size ≤ k := fun k hk => by
    rcases hk with hk | hk
    · rcases iF k hk with h1 | h1
      · exact .inl (.inl h1)
      · exact .inr h1
    · rcases iR k hk with h1 | h1
      · exact .inl (.inr h1)
      · exact .inr h1
  refine ⟨F', R', O2, F2, M, D, h.m.chg hc (fun k hk e => h.dr k (.inl e) (.inl hk)) (fun k hk e => h.dr k (.inl e) (.inr hk)), h.b.chg hc (fun k hk => ⟨h.ge1 k hk, h.dm k (.inl hk)⟩), fun k hk => ?_, h.ge2, h.ge3, h.arg, fun k hk e => ?_, fun k hk e => ?_, h.rm, fun k hk => ?_, h.xr, h.xm, fun k hk => Nat.lt_of_lt_of_le (h.xl k hk) hs⟩
  · rcases iF k hk with h1 | h1
    · exact h.ge1 k h1
    · omega
  · rcases hin k hk with h1 | h1
    · exact h.dr k h1 e
    · rcases e with e | e
      · have := l3 k e; omega
      · have := l4 k e; omega
  · rcases hin k hk with h1 | h1
    · exact h.dm k h1 e
    · have := l5 k e; omega
  · have hxl := h.xl k hk
    have hxd := h.xd k hk
    refine ⟨fun e => ?_, fun e => ?_⟩
    · rcases iF k e with h1 | h1
      · exact hxd.1 h1
      · omega
    · rcases iR k e with h1 | h1
      · exact hxd.2 h1
      · omega
theorem Pl.ref (h : Pl w W size db rdb bk hd hr n X) : ∃ O2 F2, Rk W O2 F2 rdb size hr ∧ (∀ k, O2 k → w.heap.size ≤ k ∧ ¬ X k) ∧ (∀ k, k < w.heap.size → F2 k) ∧
    ∀ (W' : World) (O' F' : Nat → Prop) (rdb' : Nat) (hr' : List Raw), Rk W' O' F' rdb' size hr' → (∀ k, O' k → O2 k ∨ W.heap.size ≤ k) → (∀ k, F' k → F2 k ∨ W.heap.size ≤ k) → (∀ k, F2 k → F' k) → Chg W W' O2 → Pl w W' size db rdb' bk hd hr' n X := by
  obtain ⟨F1, R1, O2, F2, M, h⟩ := h
  refine ⟨O2, F2, h.m, fun k hk => ⟨h.ge2 k hk, fun hx => (h.xr k hx).1 hk⟩, h.arg, fun W' O' F' rdb' hr' D iO iF mF hc => ?_⟩
  have l1 := h.d.ltF
  have l2 := h.d.ltR
  have l5 := h.b.lt
  have hs := hc.size
  have hbs := h.b.below.size
  have hin : ∀ k, O' k ∨ F' k → (O2 k ∨ F2 k) ∨ W.heap.size ≤ k := fun k hk => by
    rcases hk with hk | hk
    · rcases iO k hk with h1 | h1
      · exact .inl (.inl h1)
      · exact .inr h1
    · rcases iF k hk with h1 | h1
      · exact .inl (.inr h1)
      · exact .inr h1
  refine ⟨F1, R1, O', F', M, h.d.chg hc (fun k hk e => h.dr k (.inl hk) (.inl e)) (fun k hk e => h.dr k (.inr hk) (.inl e)), D, h.b.chg hc (fun k hk => ⟨h.ge2 k hk, h.rm k (.inl hk)⟩), h.ge1, fun k hk => ?_, h.ge3, fun k hk => mF k (h.arg k hk), fun k hk e => ?_, h.dm, fun k hk e => ?_, h.xd, fun k hk => ?_, h.xm, fun k hk => Nat.lt_of_lt_of_le (h.xl k hk) hs⟩
  · rcases iO k hk with h1 | h1
    · exact h.ge2 k h1
    · omega
  · rcases hin k e with h1 | h1
    · exact h.dr k hk h1
    · rcases hk with hk | hk
      · have := l1 k hk; omega
      · have := l2 k hk; omega
  · rcases hin k hk with h1 | h1
    · exact h.rm k h1 e
    · have := l5 k e; omega
  · have hxl := h.xl k hk
    have hxr := h.xr k hk
    refine ⟨fun e => ?_, fun e => ?_⟩
    · rcases iO k e with h1 | h1
      · exact hxr.1 h1
      · omega
    · rcases iF k e with h1 | h1
      · exact hxr.2 h1
      · omega
theorem Pl.book (h : Pl w W size db rdb bk hd hr n X) : ∃ M, Kept w W bk n M ∧ (∀ k, X k → ¬ M k) ∧ (∀ k, M k → w.heap.size ≤ k) ∧
    ∀ (W' : World) (n' : Nat) (M' X' : Nat → Prop), Kept w W' bk n' M' → (∀ k, M' k → M k ∨ X k ∨ W.heap.size ≤ k) → (∀ k, X' k → X k ∧ ¬ M' k) → Chg W W' M → Pl w W' size db rdb bk hd hr n' X' := by
  obtain ⟨F1, R1, O2, F2, M, h⟩ := h
  refine ⟨M, h.b, h.xm, h.ge3, fun W' n' M' X' D iM iX hc => ?_⟩
  have l1 := h.d.ltF
  have l2 := h.d.ltR
  have l3 := h.m.ltO
  have l4 := h.m.ltF
  have hs := hc.size
  have hbs := h.b.below.size
  have a1 : ∀ k, k < w.heap.size → F2 k := h.arg
  refine ⟨F1, R1, O2, F2, M', h.d.chg hc (fun k hk => h.dm k (.inl hk)) (fun k hk => h.dm k (.inr hk)), h.m.chg hc (fun k hk => h.rm k (.inl hk)) (fun k hk => h.rm k (.inr hk)), D, h.ge1, h.ge2, fun k hk => ?_, h.arg, h.dr, fun k hk e => ?_, fun k hk e => ?_, fun k hk => h.xd k (iX k hk).1, fun k hk => h.xr k (iX k hk).1, fun k hk => (iX k hk).2, fun k hk => Nat.lt_of_lt_of_le (h.xl k (iX k hk).1) hs⟩
  · rcases iM k hk with h1 | h1 | h1
    · exact h.ge3 k h1
    · refine Decidable.byContradiction fun hn => (h.xr k h1).2 (h.arg k (by omega))
    · omega
  · rcases iM k e with h1 | h1 | h1
    · exact h.dm k hk h1
    · rcases hk with hk | hk
      · exact (h.xd k h1).1 hk
      · exact (h.xd k h1).2 hk
    · rcases hk with hk | hk
      · have := l1 k hk; omega
      · have := l2 k hk; omega
  · rcases iM k e with h1 | h1 | h1
    · exact h.rm k hk h1
    · rcases hk with hk | hk
      · exact (h.xr k h1).1 hk
      · exact (h.xr k h1).2 hk
    · rcases hk with hk | hk
      · have := l3 k hk; omega
      · have := l4 k hk; omega
end
end Go.Proofs.YtggnkpblfmjbcaaGreatDoor
namespace Go.Proofs.YtggnkpblfmjbcaaGreatDoor
open Go.RowKit Go.Bd
structure Lim (h : List Raw) (k wk : Nat) : Prop where
  len : h.length ≤ 2 * k + wk
  fit : Fit h
  wt : wtR h ≤ wk
  few : ∀ j, (runR (h.take j)).length ≤ k
theorem Lim.nil : Lim [] 0 0 := ⟨by simp, Fit.nil, by simp [wtR], fun j => by simp [runR]⟩
theorem Lim.more {h : List Raw} {k wk k' wk' : Nat} (H : Lim h k wk) (h1 : k ≤ k') (h2 : wk ≤ wk') : Lim h k' wk' :=
  ⟨by have := H.len; omega, H.fit, by have := H.wt; omega, fun j => Nat.le_trans (H.few j) h1⟩
theorem Lim.take {h : List Raw} {k wk : Nat} (H : Lim h k wk) (n : Nat) : Lim (h.take n) k wk :=
  ⟨by have := H.len; rw [List.length_take]; omega, H.fit.take n, Nat.le_trans (wtR_take h n) H.wt, fun j => by rw [List.take_take]; exact H.few _⟩
theorem Lim.all {h : List Raw} {k wk : Nat} (H : Lim h k wk) : (runR h).length ≤ k := by
  have := H.few h.length
  rwa [List.take_length] at this
theorem set_len (fs : Fs) (s : ByteArray) (q : Bs) : (setB fs s q).length ≤ fs.length + 1 := by
  unfold setB delB
  rw [List.length_append, List.length_singleton]
  have := List.length_filter_le (fun p => !decide (p.1 = s)) fs
  omega
theorem fstP_take (q : Bs) (s : ByteArray) (n i : Nat) : (fstP q s n).take i = fstP q s (min i n) := by
  unfold fstP
  rw [← List.map_take, List.take_range]
theorem writeE_name {fs : Fs} {size : Nat} {s : ByteArray} {q : Bs} (h : writeE fs size s q = 0) : nameB s = true := by
  cases hb : nameB s with
  | true => rfl
  | false => rw [writeE_bad hb] at h; cases h
theorem Lim.write {h : List Raw} {k wk : Nat} (H : Lim h k wk) (size : Nat) (s : ByteArray) (q : Bs) (hb : 2 * k + wk + q.length + 2 ≤ 800000) (hb2 : wk + q.length ≤ 100000000) : Lim (h ++ rawsW (runR h) size s q) (k + 1) (wk + q.length) := by
  by_cases he : writeE (runR h) size s q = 0
  · have hn := nameB_80 (writeE_name he)
    have hR : rawsW (runR h) size s q = .empty s :: fstP q s ((q.length + 511) / 512) := by unfold rawsW; rw [if_pos he, fstP_all]
    have hl := H.len
    have hw := H.wt
    rw [hR]
    refine ⟨?_, H.fit.fst hn q (Nat.le_refl _) (by omega) (by omega), ?_, fun j => ?_⟩
    · rw [List.length_append, List.length_cons, fstP_len]; omega
    · rw [wtR_append]
      have e : wtR (Raw.empty s :: fstP q s ((q.length + 511) / 512)) = wtR (fstP q s ((q.length + 511) / 512)) := by simp [wtR, Raw.b]
      rw [e, fstP_wt]
      omega
    · rw [List.take_append]
      by_cases hj : j ≤ h.length
      · have e : j - h.length = 0 := by omega
        rw [e, List.take_zero, List.append_nil]
        have := H.few j; omega
      · rw [List.take_of_length_le (by omega)]
        obtain ⟨i, hi⟩ : ∃ i, j - h.length = i + 1 := ⟨j - h.length - 1, by omega⟩
        rw [hi, List.take_succ_cons, fstP_take, run_fst]
        have := set_len (runR h) s (q.take (min i ((q.length + 511) / 512) * 512))
        have := H.all
        omega
  · have hR : rawsW (runR h) size s q = [] := by unfold rawsW; rw [if_neg he]
    rw [hR, List.append_nil]
    exact H.more (by omega) (by omega)
theorem Lim.remove {h : List Raw} {k wk : Nat} (H : Lim h k wk) (s : ByteArray) (hb : 2 * k + wk + 2 ≤ 800000) : Lim (h ++ rawsD (runR h) s) (k + 1) wk := by
  by_cases he : removeE (runR h) s = 0
  · have hR : rawsD (runR h) s = [.gone s] := by unfold rawsD; rw [if_pos he]
    have hnb : nameB s = true := by
      cases hb : nameB s with
      | true => rfl
      | false => rw [(rem_bad hb).1] at he; cases he
    have hg : (getB (runR h) s).isSome = true := by
      cases hb : (getB (runR h) s).isSome with
      | true => rfl
      | false => rw [(rem_none hnb hb).1] at he; cases he
    have hl := H.len
    have hw := H.wt
    have hfw := H.fit.wt
    rw [hR]
    refine ⟨by rw [List.length_append, List.length_singleton]; omega, H.fit.snoc (r := .gone s) hg (nameB_80 hnb) (by omega) (by simp [Raw.b]; omega), by rw [wtR_append]; simp [wtR, Raw.b]; exact hw, fun j => ?_⟩
    rw [List.take_append]
    by_cases hj : j ≤ h.length
    · have e : j - h.length = 0 := by omega
      rw [e, List.take_zero, List.append_nil]
      have := H.few j; omega
    · rw [List.take_of_length_le (by omega), List.take_of_length_le (by rw [List.length_singleton]; omega), runR_snoc]
      have h1 : ((Raw.gone s).app (runR h)).length ≤ (runR h).length := List.length_filter_le _ _
      have := H.all
      omega
  · have hR : rawsD (runR h) s = [] := by unfold rawsD; rw [if_neg he]
    rw [hR, List.append_nil]
    exact H.more (by omega) (Nat.le_refl _)
abbrev Stay (w W W' : World) (X : Nat → Prop) : Prop := Chg W W' (fun k => w.heap.size ≤ k ∧ ¬ X k)
section
variable {w W : World} {size db rdb bk n : Nat} {hd hr : List Raw} {X : Nat → Prop} {k wk : Nat}
theorem pl_write (P : Pl w W size db rdb bk hd hr n X) (L : Lim hd k wk) (s : ByteArray) (hs : s.size ≤ 140737488355328) (q : Bs) (g cap : Nat) (hX : X g)
    (hc : ∀ (j : Nat) u, (u8L q)[j]? = some u → W.cell? ⟨g, j, none⟩ = some u) (hq : q.length ≤ cap) (hb : 2 * k + wk + q.length + 2 ≤ 800000) (hsz : size ≤ 8388608) :
    Calls Tryz.prog 8 #[.pointer (some ⟨db, 0, none⟩), .string s, .slice (some ⟨g, 0, none⟩) q.length cap] W fun e W' => e = .returned (.int .i64 (writeE (runR hd) size s q : Int)) ∧
      Pl w W' size db rdb bk (hd ++ rawsW (runR hd) size s q) hr n X ∧ Stay w W W' X := by
  obtain ⟨F1, R1, hD, hF, hK⟩ := P.disk
  have hl := L.len
  refine (write_dk hD s hs q (some ⟨g, 0, none⟩) cap (.inr ⟨g, 0, rfl, fun h => (hF g h).2 hX, fun j u hj => by rw [Nat.zero_add]; exact hc j u hj⟩) (by omega) hq (by omega) hsz).mono ?_
  rintro e W' ⟨rfl, F', R', h1, h2, h3, h4⟩
  exact ⟨rfl, hK W' F' R' db _ h1 h2 h3 h4, h4.mono (fun k _ hk => hF k hk)⟩
theorem pl_remove (P : Pl w W size db rdb bk hd hr n X) (L : Lim hd k wk) (s : ByteArray) (hs : s.size ≤ 140737488355328) (hb : 2 * k + wk + 2 ≤ 800000) :
    Calls Tryz.prog 13 #[.pointer (some ⟨db, 0, none⟩), .string s] W fun e W' => e = .returned (.int .i64 (removeE (runR hd) s : Int)) ∧
      Pl w W' size db rdb bk (hd ++ rawsD (runR hd) s) hr n X ∧ Stay w W W' X := by
  obtain ⟨F1, R1, hD, hF, hK⟩ := P.disk
  have hl := L.len
  refine (remove_dk hD s hs (by omega)).mono ?_
  rintro e W' ⟨rfl, F', R', h1, h2, h3, h4⟩
  exact ⟨rfl, hK W' F' R' db _ h1 h2 h3 h4, h4.mono (fun k _ hk => hF k hk)⟩
theorem pl_cut (P : Pl w W size db rdb bk hd hr n X) (L : Lim hd k wk) (m : Int) (hm : ¬ (m < 0 ∨ (hd.length : Int) < m)) (hb : 2 * k + wk + 2 ≤ 800000) (hsz : size ≤ 8388608) :
    Calls Tryz.prog 15 #[.pointer (some ⟨db, 0, none⟩), .int .i64 m] W fun e W' => ∃ ndb, e = .returned (.tuple #[.pointer (some ⟨ndb, 0, none⟩), .int .i64 0]) ∧
      Pl w W' size ndb rdb bk (hd.take m.toNat) hr n X ∧ Below W.heap.size W W' := by
  obtain ⟨F1, R1, hD, hF, hK⟩ := P.disk
  have hl := L.len
  refine (cut_dk hD m (by omega) hsz).mono ?_
  intro e W' hp
  simp only [hm, if_false] at hp
  obtain ⟨ndb, rfl, h1, h2⟩ := hp
  exact ⟨ndb, rfl, hK W' _ _ ndb _ h1 (fun k hk => .inr hk.1) (fun k hk => .inl hk) (Chg.below h2 F1), h2⟩
theorem pl_cut_bad (P : Pl w W size db rdb bk hd hr n X) (L : Lim hd k wk) (m : Int) (hm : m < 0 ∨ (hd.length : Int) < m) (hb : 2 * k + wk + 2 ≤ 800000) (hsz : size ≤ 8388608) :
    Calls Tryz.prog 15 #[.pointer (some ⟨db, 0, none⟩), .int .i64 m] W fun e W' => e = .returned (.tuple #[.pointer none, .int .i64 1]) ∧ W' = W := by
  obtain ⟨F1, R1, hD, hF, hK⟩ := P.disk
  have hl := L.len
  refine (cut_dk hD m (by omega) hsz).mono ?_
  intro e W' hp
  simp only [hm, if_true] at hp
  exact hp
theorem pl_rwrite (P : Pl w W size db rdb bk hd hr n X) (L : Lim hr k wk) (s : ByteArray) (hs : s.size ≤ 140737488355328) (q : Bs) (v : Value) (hv : BytesR w w.heap.size v q) (hk : k ≤ 200) (hb : 2 * k + wk + q.length + 2 ≤ 800000) (hsz : size ≤ 8388608) :
    Calls Tryz.prog 17 #[.pointer (some ⟨rdb, 0, none⟩), .string s, v] W fun e W' => e = .returned (.int .i64 (writeE (runR hr) size s q : Int)) ∧
      Pl w W' size db rdb bk hd (hr ++ rawsW (runR hr) size s q) n X ∧ Stay w W W' X := by
  have hbl := P.hb
  obtain ⟨O2, F2, hD, hO, hA, hK⟩ := P.ref
  have hl := L.len
  have hw := L.wt
  have hfw := L.all
  have hby : ByR W F2 v q := by
    obtain ⟨A, c, rfl, hc, f⟩ := hv.form
    refine ⟨A, c, rfl, hc, fun h0 => ?_⟩
    obtain ⟨b, off, hAb, hbB, _⟩ := f 0 _ (List.getElem?_eq_getElem (List.length_pos_iff.2 h0))
    refine ⟨b, off, hAb, hA b hbB, fun j u hj => ?_⟩
    unfold u8L at hj
    rw [List.getElem?_map] at hj
    cases hq : q[j]? with
    | none => rw [hq] at hj; cases hj
    | some x =>
      rw [hq] at hj
      injection hj with hj
      subst hj
      obtain ⟨b', off', hAb', hb', hcell⟩ := f j x hq
      rw [hAb] at hAb'
      injection hAb' with e
      injection e with e1 e2
      subst e1; subst e2
      exact (hbl.cell (p := ⟨b, off + j, none⟩) hbB).trans hcell
  refine (rwrite_rk hD L.fit s hs q v hby (by omega) (by omega) (by omega) hsz (by omega)).mono ?_
  rintro e W' ⟨rfl, O', F', h1, h2⟩
  exact ⟨rfl, hK W' O' F' rdb _ h1 h2.inO h2.inF h2.moF h2.chg, h2.chg.mono (fun k _ hk => hO k hk)⟩
theorem pl_rremove (P : Pl w W size db rdb bk hd hr n X) (L : Lim hr k wk) (s : ByteArray) (hs : s.size ≤ 140737488355328) :
    Calls Tryz.prog 14 #[.pointer (some ⟨rdb, 0, none⟩), .string s] W fun e W' => e = .returned (.int .i64 (removeE (runR hr) s : Int)) ∧
      Pl w W' size db rdb bk hd (hr ++ rawsD (runR hr) s) n X ∧ Stay w W W' X := by
  obtain ⟨O2, F2, hD, hO, hA, hK⟩ := P.ref
  refine (rremove_rk hD L.fit s hs).mono ?_
  rintro e W' ⟨rfl, O', F', h1, h2⟩
  exact ⟨rfl, hK W' O' F' rdb _ h1 h2.inO h2.inF h2.moF h2.chg, h2.chg.mono (fun k _ hk => hO k hk)⟩
theorem pl_rcut (P : Pl w W size db rdb bk hd hr n X) (L : Lim hr k wk) (m : Int) (hm : ¬ (m < 0 ∨ (hr.length : Int) < m)) (hsz : size ≤ 8388608) :
    Calls Tryz.prog 16 #[.pointer (some ⟨rdb, 0, none⟩), .int .i64 m] W fun e W' => ∃ ndb, e = .returned (.tuple #[.pointer (some ⟨ndb, 0, none⟩), .int .i64 0]) ∧
      Pl w W' size db ndb bk hd (hr.take m.toNat) n X ∧ Below W.heap.size W W' := by
  obtain ⟨O2, F2, hD, hO, hA, hK⟩ := P.ref
  refine (rcut_rk hD L.fit m hsz).mono ?_
  intro e W' hp
  simp only [hm, if_false] at hp
  obtain ⟨ndb, rfl, O', F', h1, h2, h3, h4, h5⟩ := hp
  exact ⟨ndb, rfl, hK W' O' F' ndb _ h1 (fun k hk => .inr (h2 k hk)) h3 h4 (Chg.below h5 O2), h5⟩
theorem pl_rcut_bad (P : Pl w W size db rdb bk hd hr n X) (L : Lim hr k wk) (m : Int) (hm : m < 0 ∨ (hr.length : Int) < m) (hsz : size ≤ 8388608) :
    Calls Tryz.prog 16 #[.pointer (some ⟨rdb, 0, none⟩), .int .i64 m] W fun e W' => e = .returned (.tuple #[.pointer none, .int .i64 1]) ∧ W' = W := by
  obtain ⟨O2, F2, hD, hO, hA, hK⟩ := P.ref
  refine (rcut_rk hD L.fit m hsz).mono ?_
  intro e W' hp
  simp only [hm, if_true] at hp
  exact hp
theorem pl_bytes (P : Pl w W size db rdb bk hd hr n X) (hn : n < 100000) {vA : Option Addr} {len vc : Nat} {xs : List Value} (ho : W.ownsRow w.heap.size 5 1 (.slice vA len vc) len xs) (hx : ∀ k, (Value.slice vA len vc).ownBlock = some k → X k) (hle : len ≤ 2147483647) :
    Calls Tryz.prog 26 #[.pointer (some ⟨bk, 0, none⟩), .slice vA len vc] W fun e W' => e = .returned (.tuple #[]) ∧ Pl w W' size db rdb bk hd hr (n + 1) (fun k => X k ∧ (Value.slice vA len vc).ownBlock ≠ some k) ∧ Stay w W W' X := by
  have hxl : ∀ k, X k → k < W.heap.size := by
    obtain ⟨F1, R1, O2, F2, M, h⟩ := P
    exact h.xl
  obtain ⟨M, hB, hXM, hMg, hK⟩ := P.book
  refine (hB.bytes hn ho (fun b hb => hXM b (hx b hb)) hle).mono ?_
  rintro e W' ⟨rfl, h1, h2⟩
  refine ⟨rfl, hK W' (n + 1) _ _ h1 (fun k hk => ?_) (fun k hk => ⟨hk.1, fun e => ?_⟩) h2, h2.mono (fun k _ hk => ⟨hMg k hk, fun hx => hXM k hx hk⟩)⟩
  · rcases hk with hk | hk | hk
    · exact .inl hk
    · exact .inr (.inl (hx k hk))
    · exact .inr (.inr hk.1)
  · rcases e with e | e | e
    · exact hXM k hk.1 e
    · exact hk.2 e
    · have := hxl k hk.1; omega
theorem pl_texts (P : Pl w W size db rdb bk hd hr n X) (hn : n < 100000) {vA : Option Addr} {len vc : Nat} {xs : List Value} (ho : W.ownsRow w.heap.size 9 1 (.slice vA len vc) len xs) (hx : ∀ k, (Value.slice vA len vc).ownBlock = some k → X k) (hle : len ≤ 2147483647) :
    Calls Tryz.prog 27 #[.pointer (some ⟨bk, 0, none⟩), .slice vA len vc] W fun e W' => e = .returned (.tuple #[]) ∧ Pl w W' size db rdb bk hd hr (n + 1) (fun k => X k ∧ (Value.slice vA len vc).ownBlock ≠ some k) ∧ Stay w W W' X := by
  have hxl : ∀ k, X k → k < W.heap.size := by
    obtain ⟨F1, R1, O2, F2, M, h⟩ := P
    exact h.xl
  obtain ⟨M, hB, hXM, hMg, hK⟩ := P.book
  refine (hB.texts hn ho (fun b hb => hXM b (hx b hb)) hle).mono ?_
  rintro e W' ⟨rfl, h1, h2⟩
  refine ⟨rfl, hK W' (n + 1) _ _ h1 (fun k hk => ?_) (fun k hk => ⟨hk.1, fun e => ?_⟩) h2, h2.mono (fun k _ hk => ⟨hMg k hk, fun hx => hXM k hx hk⟩)⟩
  · rcases hk with hk | hk | hk
    · exact .inl hk
    · exact .inr (.inl (hx k hk))
    · exact .inr (.inr hk.1)
  · rcases e with e | e | e
    · exact hXM k hk.1 e
    · exact hk.2 e
    · have := hxl k hk.1; omega
theorem pl_apart (P : Pl w W size db rdb bk hd hr n X) : Calls Tryz.prog 28 #[.pointer (some ⟨bk, 0, none⟩)] W fun e W' => e = .returned (.bool true) ∧ Below w.heap.size w W' := by
  obtain ⟨M, hB, _⟩ := P.book
  exact hB.apart
end
end Go.Proofs.YtggnkpblfmjbcaaGreatDoor
namespace Go.Proofs.YtggnkpblfmjbcaaGreatDoor
open Go.RowKit Go.Bd
set_option maxRecDepth 100000 in
set_option maxHeartbeats 2000000 in
theorem new_bad (size : Int) (hs : size < 0 ∨ 8388608 < size) (w : World) :
    Calls Tryz.prog 6 #[.int .i64 size] w fun e w' => e = .returned (.tuple #[.pointer none, .int .i64 1]) ∧ w' = w := by
  rcases hs with hs | hs
  all_goals
    go_enter Tryz.func6, Tryz.ntmps6
    go_wp2
    go_ret2
    exact ⟨rfl, rfl⟩
set_option maxRecDepth 100000 in
theorem used_nil (w : World) :
    Calls Tryz.prog 9 #[.pointer none] w fun e w' => e = .returned (.int .i64 0) ∧ w' = w := by
  go_enter Tryz.func9, Tryz.ntmps9
  go_wp2_with (go_at_call 29; refine (there_nil _).mono ?_; rintro e w1 ⟨rfl, rfl⟩)
  go_ret
  exact ⟨rfl, rfl⟩
set_option maxRecDepth 100000 in
theorem names_nil (w : World) :
    Calls Tryz.prog 11 #[.pointer none] w fun e w' => e = .returned (.slice none 0 0) ∧ w' = w := by
  go_enter Tryz.func11, Tryz.ntmps11
  go_wp2_with (go_at_call 29; refine (there_nil _).mono ?_; rintro e w1 ⟨rfl, rfl⟩)
  go_ret
  exact ⟨rfl, rfl⟩
structure Rn (w W : World) (size db rdb bk : Nat) (hd hr : List Raw) (n bx g cap : Nat) (x : Ac) (bv : Value) : Prop where
  pl : Pl w W size db rdb bk hd hr n (fun k => k = bx ∨ k = g)
  box : Holds W bx 57 #[.int .u8 (x.kind : Int), .string x.name, bv, .int .i64 x.pos]
  row : W.ownsRow w.heap.size 5 1 (.slice (some ⟨g, 0, none⟩) (x.b.length + 1) cap) (x.b.length + 1) (x.b.map y8 ++ [y8 spareY])
  arg : BytesR w w.heap.size bv x.b
section
variable {w W W' : World} {size db rdb bk n bx g cap : Nat} {hd hr hd' hr' : List Raw} {x : Ac} {bv : Value} {k wk : Nat} {db' rdb' : Nat}
theorem Rn.turn (R : Rn w W size db rdb bk hd hr n bx g cap x bv) (P : Pl w W' size db' rdb' bk hd' hr' n (fun k => k = bx ∨ k = g)) (C : Stay w W W' (fun k => k = bx ∨ k = g)) : Rn w W' size db' rdb' bk hd' hr' n bx g cap x bv :=
  ⟨P, C.holds (fun h => h.2 (.inl rfl)) R.box, C.owns R.row (fun k hk h => h.2 (.inr (by simpa [Value.ownBlock] using hk.symm))), R.arg⟩
theorem Rn.keep (R : Rn w W size db rdb bk hd hr n bx g cap x bv) (hb : Below W.heap.size W W') : Rn w W' size db rdb bk hd hr n bx g cap x bv :=
  R.turn (R.pl.keep hb) (Chg.below hb _)
theorem Rn.drew (R : Rn w W size db rdb bk hd hr n bx g cap x bv) : Rn w W.drew size db rdb bk hd hr n bx g cap x bv := R.keep ((Below.refl _ _).drew)
theorem Rn.cells (R : Rn w W size db rdb bk hd hr n bx g cap x bv) : W.cell? ⟨bx, 0, none⟩ = some (.int .u8 (x.kind : Int)) ∧ W.cell? ⟨bx, 1, none⟩ = some (.string x.name) ∧ W.cell? ⟨bx, 2, none⟩ = some bv ∧ W.cell? ⟨bx, 3, none⟩ = some (.int .i64 x.pos) :=
  ⟨R.box.cell 0, R.box.cell 1, R.box.cell 2, R.box.cell 3⟩
theorem Rn.capL (R : Rn w W size db rdb bk hd hr n bx g cap x bv) : x.b.length + 1 ≤ cap := by
  obtain ⟨g', cap', hv, _, _, h1, _⟩ := own_some R.row (by omega)
  injection hv with _ _ e3
  omega
theorem Rn.bytes (R : Rn w W size db rdb bk hd hr n bx g cap x bv) : ∀ (j : Nat) u, (u8L x.b)[j]? = some u → W.cell? ⟨g, j, none⟩ = some u := fun j u hj => own_cell R.row (by
  have hl : j < x.b.length := by have := (List.getElem?_eq_some_iff.1 hj).1; rwa [u8L_length] at this
  rw [List.getElem?_append_left (by rw [List.length_map]; exact hl)]
  exact hj)
theorem rn_write (R : Rn w W size db rdb bk hd hr n bx g cap x bv) (L : Lim hd k wk) (hs : x.name.size ≤ 140737488355328) (hb : 2 * k + wk + x.b.length + 2 ≤ 800000) (hsz : size ≤ 8388608) :
    Calls Tryz.prog 8 #[.pointer (some ⟨db, 0, none⟩), .string x.name, .slice (some ⟨g, 0, none⟩) x.b.length cap] W fun e W' => e = .returned (.int .i64 (writeE (runR hd) size x.name x.b : Int)) ∧
      Rn w W' size db rdb bk (hd ++ rawsW (runR hd) size x.name x.b) hr n bx g cap x bv := by
  have hc := R.capL
  refine (pl_write R.pl L x.name hs x.b g cap (.inr rfl) R.bytes (by omega) hb hsz).mono ?_
  rintro e W' ⟨rfl, h1, h2⟩
  exact ⟨rfl, R.turn h1 h2⟩
theorem rn_rwrite (R : Rn w W size db rdb bk hd hr n bx g cap x bv) (L : Lim hr k wk) (hs : x.name.size ≤ 140737488355328) (hk : k ≤ 200) (hb : 2 * k + wk + x.b.length + 2 ≤ 800000) (hsz : size ≤ 8388608) :
    Calls Tryz.prog 17 #[.pointer (some ⟨rdb, 0, none⟩), .string x.name, bv] W fun e W' => e = .returned (.int .i64 (writeE (runR hr) size x.name x.b : Int)) ∧
      Rn w W' size db rdb bk hd (hr ++ rawsW (runR hr) size x.name x.b) n bx g cap x bv := by
  refine (pl_rwrite R.pl L x.name hs x.b bv R.arg hk hb hsz).mono ?_
  rintro e W' ⟨rfl, h1, h2⟩
  exact ⟨rfl, R.turn h1 h2⟩
theorem rn_remove (R : Rn w W size db rdb bk hd hr n bx g cap x bv) (L : Lim hd k wk) (hs : x.name.size ≤ 140737488355328) (hb : 2 * k + wk + 2 ≤ 800000) :
    Calls Tryz.prog 13 #[.pointer (some ⟨db, 0, none⟩), .string x.name] W fun e W' => e = .returned (.int .i64 (removeE (runR hd) x.name : Int)) ∧
      Rn w W' size db rdb bk (hd ++ rawsD (runR hd) x.name) hr n bx g cap x bv := by
  refine (pl_remove R.pl L x.name hs hb).mono ?_
  rintro e W' ⟨rfl, h1, h2⟩
  exact ⟨rfl, R.turn h1 h2⟩
theorem rn_rremove (R : Rn w W size db rdb bk hd hr n bx g cap x bv) (L : Lim hr k wk) (hs : x.name.size ≤ 140737488355328) :
    Calls Tryz.prog 14 #[.pointer (some ⟨rdb, 0, none⟩), .string x.name] W fun e W' => e = .returned (.int .i64 (removeE (runR hr) x.name : Int)) ∧
      Rn w W' size db rdb bk hd (hr ++ rawsD (runR hr) x.name) n bx g cap x bv := by
  refine (pl_rremove R.pl L x.name hs).mono ?_
  rintro e W' ⟨rfl, h1, h2⟩
  exact ⟨rfl, R.turn h1 h2⟩
theorem rn_cut (R : Rn w W size db rdb bk hd hr n bx g cap x bv) (L : Lim hd k wk) (m : Int) (hm : ¬ (m < 0 ∨ (hd.length : Int) < m)) (hb : 2 * k + wk + 2 ≤ 800000) (hsz : size ≤ 8388608) :
    Calls Tryz.prog 15 #[.pointer (some ⟨db, 0, none⟩), .int .i64 m] W fun e W' => ∃ ndb, e = .returned (.tuple #[.pointer (some ⟨ndb, 0, none⟩), .int .i64 0]) ∧
      Rn w W' size ndb rdb bk (hd.take m.toNat) hr n bx g cap x bv := by
  refine (pl_cut R.pl L m hm hb hsz).mono ?_
  rintro e W' ⟨ndb, rfl, h1, h2⟩
  exact ⟨ndb, rfl, R.turn h1 (Chg.below h2 _)⟩
theorem rn_rcut (R : Rn w W size db rdb bk hd hr n bx g cap x bv) (L : Lim hr k wk) (m : Int) (hm : ¬ (m < 0 ∨ (hr.length : Int) < m)) (hsz : size ≤ 8388608) :
    Calls Tryz.prog 16 #[.pointer (some ⟨rdb, 0, none⟩), .int .i64 m] W fun e W' => ∃ ndb, e = .returned (.tuple #[.pointer (some ⟨ndb, 0, none⟩), .int .i64 0]) ∧
      Rn w W' size db ndb bk hd (hr.take m.toNat) n bx g cap x bv := by
  refine (pl_rcut R.pl L m hm hsz).mono ?_
  rintro e W' ⟨ndb, rfl, h1, h2⟩
  exact ⟨ndb, rfl, R.turn h1 (Chg.below h2 _)⟩
theorem rn_read (R : Rn w W size db rdb bk hd hr n bx g cap x bv) (L : Lim hd k wk) (hs : x.name.size ≤ 140737488355328) (hb : 2 * k + wk + 2 ≤ 800000) {q : Bs} {er : Nat} (hq : readB (runR hd) x.name = (q, er)) :
    Calls Tryz.prog 18 #[.pointer (some ⟨db, 0, none⟩), .string x.name] W fun e W' => ∃ A c, e = .returned (.tuple #[.slice A q.length c, .int .i64 (er : Int)]) ∧ W'.ownsRow W.heap.size 5 1 (.slice A q.length c) q.length (u8L q) ∧ Below W.heap.size W W' := by
  obtain ⟨F1, R1, hD, hF, hK⟩ := R.pl.disk
  have hl := L.len
  have hrd := read_dk hD x.name hs (by omega)
  rw [hq] at hrd
  refine hrd.mono ?_
  rintro e W' ⟨v, rfl, ho, hb⟩
  obtain ⟨A, c, rfl, _⟩ := own_slice ho
  exact ⟨A, c, rfl, ho, hb⟩
theorem rn_rread (R : Rn w W size db rdb bk hd hr n bx g cap x bv) (L : Lim hr k wk) (hs : x.name.size ≤ 140737488355328) {q : Bs} {er : Nat} (hq : readB (runR hr) x.name = (q, er)) :
    Calls Tryz.prog 19 #[.pointer (some ⟨rdb, 0, none⟩), .string x.name] W fun e W' => ∃ A c, e = .returned (.tuple #[.slice A q.length c, .int .i64 (er : Int)]) ∧ W'.ownsRow W.heap.size 5 1 (.slice A q.length c) q.length (u8L q) ∧ Below W.heap.size W W' := by
  obtain ⟨O2, F2, hD, hO, hA, hK⟩ := R.pl.ref
  have hrd := rread_rk hD L.fit x.name hs
  rw [hq] at hrd
  refine hrd.mono ?_
  rintro e W' ⟨v, rfl, ho, hb⟩
  obtain ⟨A, c, rfl, _⟩ := own_slice ho
  exact ⟨A, c, rfl, ho, hb⟩
theorem rn_names (R : Rn w W size db rdb bk hd hr n bx g cap x bv) (L : Lim hd k wk) (hb : 2 * k + wk + 2 ≤ 800000) {ns : List ByteArray} (hns : (namesB (runR hd)).map baOf = ns) :
    Calls Tryz.prog 11 #[.pointer (some ⟨db, 0, none⟩)] W fun e W' => ∃ A c, e = .returned (.slice A ns.length c) ∧ W'.ownsRow W.heap.size 9 1 (.slice A ns.length c) ns.length (ns.map Value.string) ∧ Below W.heap.size W W' := by
  obtain ⟨F1, R1, hD, hF, hK⟩ := R.pl.disk
  have hl := L.len
  have hnl : (namesB (runR hd)).length = ns.length := by rw [← hns, List.length_map]
  refine (names_dk hD (by omega)).mono ?_
  rintro e W' ⟨v, rfl, ho, hb⟩
  rw [encs_map, hns, hnl] at ho
  obtain ⟨A, c, rfl, _⟩ := own_slice ho
  exact ⟨A, c, rfl, ho, hb⟩
theorem rn_rnames (R : Rn w W size db rdb bk hd hr n bx g cap x bv) (L : Lim hr k wk) {ns : List ByteArray} (hns : (namesB (runR hr)).map baOf = ns) :
    Calls Tryz.prog 22 #[.pointer (some ⟨rdb, 0, none⟩)] W fun e W' => ∃ A c, e = .returned (.slice A ns.length c) ∧ W'.ownsRow W.heap.size 9 1 (.slice A ns.length c) ns.length (ns.map Value.string) ∧ Below W.heap.size W W' := by
  obtain ⟨O2, F2, hD, hO, hA, hK⟩ := R.pl.ref
  have hnl : (namesB (runR hr)).length = ns.length := by rw [← hns, List.length_map]
  refine (rnames_rk hD L.fit).mono ?_
  rintro e W' ⟨v, rfl, ho, hb⟩
  rw [encs_map, hns, hnl] at ho
  obtain ⟨A, c, rfl, _⟩ := own_slice ho
  exact ⟨A, c, rfl, ho, hb⟩
theorem rn_used (R : Rn w W size db rdb bk hd hr n bx g cap x bv) :
    Calls Tryz.prog 9 #[.pointer (some ⟨db, 0, none⟩)] W fun e W' => e = .returned (.int .i64 (usedB (runR hd) : Int)) ∧ W' = W := by
  obtain ⟨F1, R1, hD, hF, hK⟩ := R.pl.disk
  exact used_dk hD
theorem rn_rused (R : Rn w W size db rdb bk hd hr n bx g cap x bv) (L : Lim hr k wk) :
    Calls Tryz.prog 23 #[.pointer (some ⟨rdb, 0, none⟩)] W fun e W' => e = .returned (.int .i64 (usedB (runR hr) : Int)) ∧ Below W.heap.size W W' := by
  obtain ⟨O2, F2, hD, hO, hA, hK⟩ := R.pl.ref
  exact rused_rk hD L.fit
theorem rn_writes (R : Rn w W size db rdb bk hd hr n bx g cap x bv) :
    Calls Tryz.prog 10 #[.pointer (some ⟨db, 0, none⟩)] W fun e W' => e = .returned (.int .i64 (hd.length : Int)) ∧ W' = W := by
  obtain ⟨F1, R1, hD, hF, hK⟩ := R.pl.disk
  exact writes_dk hD
theorem rn_rwrites (R : Rn w W size db rdb bk hd hr n bx g cap x bv) :
    Calls Tryz.prog 24 #[.pointer (some ⟨rdb, 0, none⟩)] W fun e W' => e = .returned (.int .i64 (hr.length : Int)) ∧ W' = W := by
  obtain ⟨O2, F2, hD, hO, hA, hK⟩ := R.pl.ref
  exact rwrites_rk hD
theorem rn_left (R : Rn w W size db rdb bk hd hr n bx g cap x bv) (hl : x.b.length ≤ 1048576) :
    Calls Tryz.prog 25 #[.slice (some ⟨g, 0, none⟩) x.b.length cap, bv] W fun e W' => e = .returned (.bool true) ∧ Below W.heap.size W W' := by
  refine leftBytes_any bv x.b W W.heap.size w.heap.size g cap ?_ R.row hl
  have hb := R.pl.hb
  obtain ⟨A, c, h1, h2, h3⟩ := R.arg
  refine ⟨A, c, h1, h2, fun h0 => ?_⟩
  obtain ⟨b, off, h4, h5, h6⟩ := h3 h0
  exact ⟨b, off, h4, Nat.lt_of_lt_of_le h5 hb.size, fun j u hj => (hb.cell (p := ⟨b, off + j, none⟩) h5).trans (h6 j u hj)⟩
end
theorem rn_new {w W w5 : World} {size db rdb bk n g cap : Nat} {hd hr : List Raw} {x : Ac} {bv : Value} (P : Pl w W size db rdb bk hd hr n (fun _ => False)) (arg : BytesR w w.heap.size bv x.b)
    (ho : w5.ownsRow (W.alloc (.cells #[.int .u8 (x.kind : Int), .string x.name, bv, .int .i64 x.pos] 57)).heap.size 5 1 (.slice (some ⟨g, 0, none⟩) (x.b.length + 1) cap) (x.b.length + 1) (x.b.map y8 ++ [y8 spareY]))
    (hb : Below (W.alloc (.cells #[.int .u8 (x.kind : Int), .string x.name, bv, .int .i64 x.pos] 57)).heap.size (W.alloc (.cells #[.int .u8 (x.kind : Int), .string x.name, bv, .int .i64 x.pos] 57)) w5) :
    Rn w w5 size db rdb bk hd hr n W.heap.size g cap x bv := by
  have hg := ho.lt g rfl
  have hs := hb.size
  have hbs := P.hb.size
  have hb2 : Below W.heap.size W w5 := ((Below.refl _ W).alloc (Nat.le_refl _) _).trans (hb.mono (by simp))
  rw [World.size_alloc] at hg hs
  refine ⟨(P.fresh hb2).less (fun k hk => .inr ?_), (Chg.below hb (fun _ => False)).holds (fun h => h) (Holds.new W _ _), own_mono ho (by rw [World.size_alloc]; omega), arg⟩
  rcases hk with rfl | rfl <;> omega
structure T1 (w W : World) (size db rdb bk : Nat) (hd hr : List Raw) (n g cap m : Nat) (va : Value) (q : Bs) (vn : Value) (ns : List ByteArray) : Prop where
  pl : Pl w W size db rdb bk hd hr n (fun k => k = g ∨ va.ownBlock = some k ∨ vn.ownBlock = some k)
  rb : ∃ xs, W.ownsRow w.heap.size 5 1 (.slice (some ⟨g, 0, none⟩) m cap) m xs
  ra : W.ownsRow w.heap.size 5 1 va q.length (u8L q)
  rn : W.ownsRow w.heap.size 9 1 vn ns.length (ns.map Value.string)
  ag : va.ownBlock ≠ some g
  ng : vn.ownBlock ≠ some g
  na : ∀ k, vn.ownBlock = some k → va.ownBlock ≠ some k
structure T2 (w W : World) (size db rdb bk : Nat) (hd hr : List Raw) (n : Nat) (va : Value) (q : Bs) (vn : Value) (ns : List ByteArray) : Prop where
  pl : Pl w W size db rdb bk hd hr n (fun k => va.ownBlock = some k ∨ vn.ownBlock = some k)
  ra : W.ownsRow w.heap.size 5 1 va q.length (u8L q)
  rn : W.ownsRow w.heap.size 9 1 vn ns.length (ns.map Value.string)
  na : ∀ k, vn.ownBlock = some k → va.ownBlock ≠ some k
structure T3 (w W : World) (size db rdb bk : Nat) (hd hr : List Raw) (n : Nat) (vn : Value) (ns : List ByteArray) : Prop where
  pl : Pl w W size db rdb bk hd hr n (fun k => vn.ownBlock = some k)
  rn : W.ownsRow w.heap.size 9 1 vn ns.length (ns.map Value.string)
theorem t1_new {w w6 W : World} {size db rdb bk n bx g cap s1 : Nat} {hd hr : List Raw} {x : Ac} {bv va vn : Value} {q : Bs} {ns : List ByteArray} (R : Rn w w6 size db rdb bk hd hr n bx g cap x bv) (hb : Below w6.heap.size w6 W)
    (ra : W.ownsRow w6.heap.size 5 1 va q.length (u8L q)) (ha : ∀ k, va.ownBlock = some k → k < s1) (rn : W.ownsRow s1 9 1 vn ns.length (ns.map Value.string)) (h1 : w6.heap.size ≤ s1) : T1 w W size db rdb bk hd hr n g cap x.b.length va q vn ns := by
  have hgl : g < w6.heap.size := (R.row.lt g rfl).2
  have hws := R.pl.hb.size
  obtain ⟨v', hv', hrow⟩ := own_take (R.keep hb).row (j := x.b.length) (by omega)
  subst hv'
  refine ⟨(R.pl.fresh hb).less (fun k hk => ?_), ⟨_, hrow⟩, own_mono ra hws, own_mono rn (by omega), fun e => ?_, fun e => ?_, fun k hk e => ?_⟩
  · rcases hk with rfl | hk | hk
    · exact .inl (.inr rfl)
    · exact .inr (ra.lt k hk)
    · have := rn.lt k hk
      exact .inr ⟨by omega, this.2⟩
  · have := (ra.lt g e).1; omega
  · have := (rn.lt g e).1; omega
  · have := (rn.lt k hk).1
    have := ha k e
    omega
theorem tell1 {w W : World} {size db rdb bk n g cap m : Nat} {hd hr : List Raw} {va vn : Value} {q : Bs} {ns : List ByteArray} (T : T1 w W size db rdb bk hd hr n g cap m va q vn ns) (hn : n < 100000) (hm : m ≤ 2147483647) :
    Calls Tryz.prog 26 #[.pointer (some ⟨bk, 0, none⟩), .slice (some ⟨g, 0, none⟩) m cap] W fun e W' => e = .returned (.tuple #[]) ∧ T2 w W' size db rdb bk hd hr (n + 1) va q vn ns := by
  obtain ⟨xs, hrb⟩ := T.rb
  refine (pl_bytes T.pl hn hrb (fun k hk => .inl (by simpa [Value.ownBlock] using hk.symm)) hm).mono ?_
  rintro e W' ⟨rfl, h1, h2⟩
  refine ⟨rfl, h1.less (fun k hk => ⟨.inr hk, fun e => ?_⟩), h2.owns T.ra (fun k hk h => h.2 (.inr (.inl hk))), h2.owns T.rn (fun k hk h => h.2 (.inr (.inr hk))), T.na⟩
  have e : g = k := by simpa [Value.ownBlock] using e
  subst e
  rcases hk with hk | hk
  · exact T.ag hk
  · exact T.ng hk
theorem tell2 {w W : World} {size db rdb bk n : Nat} {hd hr : List Raw} {A : Option Addr} {c : Nat} {vn : Value} {q : Bs} {ns : List ByteArray} (T : T2 w W size db rdb bk hd hr n (.slice A q.length c) q vn ns) (hn : n < 100000) (hm : q.length ≤ 2147483647) :
    Calls Tryz.prog 26 #[.pointer (some ⟨bk, 0, none⟩), .slice A q.length c] W fun e W' => e = .returned (.tuple #[]) ∧ T3 w W' size db rdb bk hd hr (n + 1) vn ns := by
  refine (pl_bytes T.pl hn T.ra (fun k hk => .inl hk) hm).mono ?_
  rintro e W' ⟨rfl, h1, h2⟩
  exact ⟨rfl, h1.less (fun k hk => ⟨.inr hk, T.na k hk⟩), h2.owns T.rn (fun k hk h => h.2 (.inr hk))⟩
theorem tell3 {w W : World} {size db rdb bk n : Nat} {hd hr : List Raw} {A : Option Addr} {c : Nat} {ns : List ByteArray} (T : T3 w W size db rdb bk hd hr n (.slice A ns.length c) ns) (hn : n < 100000) (hm : ns.length ≤ 2147483647) :
    Calls Tryz.prog 27 #[.pointer (some ⟨bk, 0, none⟩), .slice A ns.length c] W fun e W' => e = .returned (.tuple #[]) ∧ Pl w W' size db rdb bk hd hr (n + 1) (fun _ => False) := by
  refine (pl_texts T.pl hn T.rn (fun k hk => hk) hm).mono ?_
  rintro e W' ⟨rfl, h1, h2⟩
  exact ⟨rfl, h1.less (fun k hk => hk.elim)⟩
theorem pl_new {w w1 w2 w3 : World} {size db : Nat} (hb1 : Below w.heap.size w w1) (hd2 : Dk w2 (fun k => w1.heap.size ≤ k ∧ k < w2.heap.size) (fun _ => False) db size []) (hb2 : Below w1.heap.size w1 w2)
    (hr3 : RDs w3 (fun k => k = w2.heap.size) (fun _ => False) w2.heap.size size (.slice none 0 0) (runO []) (.slice none 0 0) []) (hb3 : Below w2.heap.size w2 w3) (ht : Tab w) :
    Pl w (w3.alloc (.cells bookCells 54)) size db w2.heap.size w3.heap.size [] [] 0 (fun _ => False) := by
  have s1 := hb1.size
  have s2 := hb2.size
  have s3 := hb3.size
  have l3 := hr3.ltO _ rfl
  have hb02 := hb1.trans (hb2.mono s1)
  have hb03 := hb02.trans (hb3.mono hb02.size)
  have hal := (Below.refl w3.heap.size w3).alloc (Nat.le_refl _) (.cells bookCells 54)
  have hB := Kept.new hb03 (ht.below hb03 ht.lt) ht.lt
  refine ⟨fun k => w1.heap.size ≤ k ∧ k < w2.heap.size, fun _ => False, fun k => k = w2.heap.size, fun k => k < w.heap.size, fun k => k = w3.heap.size, (hd2.below hb3).below hal, ⟨_, _, (hr3.below hal).more (fun k hk => hk.elim) (fun k hk e => by omega) (fun k hk => by rw [World.size_alloc]; omega)⟩, hB, fun k hk => by omega, fun k hk => by omega, fun k hk => by omega, fun k hk => hk, fun k hk e => ?_, fun k hk e => ?_, fun k hk e => ?_, fun k hk => hk.elim, fun k hk => hk.elim, fun k hk => hk.elim, fun k hk => hk.elim⟩
  · rcases hk with hk | hk
    · rcases e with e | e <;> omega
    · exact hk
  · rcases hk with hk | hk
    · omega
    · exact hk
  · rcases hk with hk | hk <;> omega
theorem rn_refl {w W : World} {size db rdb bk n bx g cap : Nat} {hd hr : List Raw} {x : Ac} {bv : Value} (_ : Rn w W size db rdb bk hd hr n bx g cap x bv) : Below W.heap.size W W := Below.refl _ _
theorem read_len {h : List Raw} {k wk : Nat} (L : Lim h k wk) {s : ByteArray} {q : Bs} {er : Nat} (hq : readB (runR h) s = (q, er)) : q.length ≤ wk := by
  have hw := L.wt
  unfold readB at hq
  split at hq
  · rw [← alike_getB L.fit] at hq
    have hr := L.fit.run
    have hg := asc_get hr.1 s
    split at hq
    · rename_i c hc
      injection hq with h1 h2
      subst h1
      have hf : fnd (runO h) s = true := by rw [← hg.1, hc]; rfl
      obtain ⟨p, hp, _⟩ := fnd_some hf
      have h3 := (hg.2 p hf hp).2
      rw [hc] at h3
      injection h3 with h3
      have := hr.2.2.2.2 p (List.mem_of_getElem? hp)
      rw [h3]; omega
    · injection hq with h1 h2
      subst h1; simp
  · injection hq with h1 h2
    subst h1; simp
theorem names_len {h : List Raw} {k wk : Nat} (L : Lim h k wk) {ns : List ByteArray} (hns : (namesB (runR h)).map baOf = ns) : ns.length ≤ k := by
  rw [← hns, List.length_map]
  unfold namesB
  rw [List.length_mergeSort, List.length_map]
  exact L.all
end Go.Proofs.YtggnkpblfmjbcaaGreatDoor
