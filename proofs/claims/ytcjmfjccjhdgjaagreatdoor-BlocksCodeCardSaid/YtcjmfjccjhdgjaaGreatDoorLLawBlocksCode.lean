/-
  The law BlocksCode: for every input it answers true, and the input reads as it did: the row, and its card. Its conditions: those of the given row alone.
-/
import Derived.IntWalk
import Derived.Lib.Hide
import Derived.Deep.LoopGhost
import Derived.Below
import Derived.WalkKit
import Derived.Test.YtcjmfjccjhdgjaaGreatDoorRows
import Derived.Test.YtcjmfjccjhdgjaaGreatDoorChecked
import Derived.Deep.Slices
import Derived.ChangeArms
import Derived.WideShapes
import Derived.SizedLaws
import Derived.Test.YtcjmfjccjhdgjaaGreatDoorK7
set_option linter.unusedSimpArgs false
set_option linter.unusedVariables false
namespace Go.Bd
open Go.RowKit
/-- a line of blanks, out of a byte -/
def eTx (x : Int) : ByteArray := if x % 4 = 0 then ⟨#[]⟩ else if x % 4 = 1 then ⟨#[32]⟩ else if x % 4 = 2 then ⟨#[9]⟩ else ⟨#[32, 9, 32]⟩
theorem eTx_trim (x : Int) : trim (eTx x).data.toList = [] := by
  unfold eTx
  repeat' split
  all_goals decide
theorem eTx_size (x : Int) : (eTx x).size ≤ 3 := by
  unfold eTx
  repeat' split
  all_goals decide
theorem sum_le_mul : ∀ {l : List ByteArray} {k : Nat}, (∀ s ∈ l, s.size ≤ k) → (l.map (·.size)).sum ≤ l.length * k
  | [], k, _ => by simp
  | x :: l, k, h => by
    have h1 := sum_le_mul (l := l) (k := k) (fun s hs => h s (List.mem_cons_of_mem _ hs))
    have h2 := h x (List.mem_cons_self ..)
    rw [List.map_cons, List.sum_cons, List.length_cons, Nat.succ_mul]
    omega
end Go.Bd
namespace Go.Proofs.YtcjmfjccjhdgjaaGreatDoor
open Go.RowKit Go.Bd
theorem tr_data (s : ByteArray) : (tr s).data.toList = trim s.data.toList := by simp [tr]
theorem readR_nil (f : ByteArray) (no : Int) {s : ByteArray} (rest : List Ln) (h : s.data.toList = []) : readR f no s rest = (0, [], []) := by
  unfold readR
  rw [h, if_neg (by decide), if_neg (by decide), if_pos rfl]
theorem step_blank {x : Ln} (rest : List Ln) (h : trim x.text.data.toList = []) : stepR x rest = (0, [], []) := by
  unfold stepR
  rw [h]
  have e : commandB [] = none := by decide
  rw [e]
  exact readR_nil _ _ _ (by rw [tr_data, h])
theorem blank_blocks : ∀ {l : List ByteArray} (n : Nat) (t : List Ln), (∀ s ∈ l, trim s.data.toList = []) → blocksOf (lnsFrom n l ++ t) = blocksOf t ∧ diagsOf (lnsFrom n l ++ t) = diagsOf t
  | [], n, t, _ => ⟨rfl, rfl⟩
  | x :: l, n, t, h => by
    have ih := blank_blocks (l := l) (n + 1) t (fun s hs => h s (List.mem_cons_of_mem _ hs))
    rw [lnsFrom, List.cons_append, blocksOf_cons, diagsOf_cons, step_blank _ (h x (List.mem_cons_self ..))]
    exact ⟨by simpa using ih.1, by simpa using ih.2⟩
def ex1 : Ln := ⟨⟨#[102]⟩, 1, ⟨#[61, 32, 120]⟩⟩
theorem cmd_ex : commandB (trim [61, 32, 120]) = none := by decide
theorem cmd_ey : commandB (trim [121]) = none := by decide
theorem read_ex : 0 < (leadB [61, 32, 120] 61).1 := by decide
theorem step_ex (rest : List Ln) : (stepR ex1 rest).1 = 0 ∧ (stepR ex1 rest).2.1.length = 1 ∧ (stepR ex1 rest).2.2 = [] := by
  have e : stepR ex1 rest = headR ⟨#[102]⟩ 1 ⟨#[61, 32, 120]⟩ := by
    unfold stepR ex1
    simp only
    rw [show trim (⟨#[61, 32, 120]⟩ : ByteArray).data.toList = trim [61, 32, 120] from rfl, cmd_ex]
    simp only
    rw [show tr ⟨#[61, 32, 120]⟩ = ⟨#[61, 32, 120]⟩ by decide]
    unfold readR
    rw [if_pos (show 0 < (leadB (⟨#[61, 32, 120]⟩ : ByteArray).data.toList 61).1 from read_ex)]
  rw [e]
  exact ⟨rfl, rfl, List.length_eq_zero_iff.1 (by decide +kernel)⟩
theorem step_ey (no : Int) : stepR ⟨⟨#[102]⟩, no, ⟨#[121]⟩⟩ [] = paraR ⟨#[102]⟩ no ⟨#[121]⟩ [] := by
  unfold stepR
  simp only
  rw [show trim (⟨#[121]⟩ : ByteArray).data.toList = trim [121] from rfl, cmd_ey]
  simp only
  rw [show tr ⟨#[121]⟩ = ⟨#[121]⟩ by decide]
  unfold readR
  rw [if_neg (by decide), if_neg (by decide), if_neg (by decide), if_neg (by decide), if_neg (by decide)]
theorem empty_law (l : List ByteArray) (h : ∀ s ∈ l, trim s.data.toList = []) : blocksOf (linesOf l) = [] ∧ diagsOf (linesOf l) = [] ∧ diagsOf (linesOf (⟨#[61, 32, 120]⟩ :: l ++ [⟨#[121]⟩])) = [] ∧ ∃ a b, blocksOf (linesOf (⟨#[61, 32, 120]⟩ :: l ++ [⟨#[121]⟩])) = [a, b] ∧ b.kind = 2 ∧ b.line = (l.length : Int) + 2 := by
  have h1 := blank_blocks 1 [] h
  rw [List.append_nil] at h1
  have h2 := blank_blocks 2 (lnsFrom (2 + l.length) [⟨#[121]⟩]) h
  have e : linesOf (⟨#[61, 32, 120]⟩ :: l ++ [⟨#[121]⟩]) = ex1 :: (lnsFrom 2 l ++ lnsFrom (2 + l.length) [⟨#[121]⟩]) := by
    unfold linesOf
    rw [List.cons_append, lnsFrom, lnsFrom_append]
    rfl
  obtain ⟨k1, k2, k3⟩ := step_ex (lnsFrom 2 l ++ lnsFrom (2 + l.length) [⟨#[121]⟩])
  obtain ⟨a, ha⟩ := List.length_eq_one_iff.1 k2
  have hy : lnsFrom (2 + l.length) [⟨#[121]⟩] = [⟨⟨#[102]⟩, ((2 + l.length : Nat) : Int), ⟨#[121]⟩⟩] := rfl
  have b1 : blocksOf (lnsFrom (2 + l.length) [⟨#[121]⟩]) = (paraR ⟨#[102]⟩ ((2 + l.length : Nat) : Int) ⟨#[121]⟩ []).2.1 := by
    rw [hy, blocksOf_cons, step_ey, List.drop_nil, blocksOf_nil, List.append_nil]
  have d1 : diagsOf (lnsFrom (2 + l.length) [⟨#[121]⟩]) = (paraR ⟨#[102]⟩ ((2 + l.length : Nat) : Int) ⟨#[121]⟩ []).2.2 := by
    rw [hy, diagsOf_cons, step_ey, List.drop_nil, diagsOf_nil, List.append_nil]
  refine ⟨h1.1, h1.2, ?_, ?_⟩
  · rw [e, diagsOf_cons, k1, k3, List.drop_zero, List.nil_append, h2.2, d1]
    have : faultsOf (paraB [] 0 ⟨#[121]⟩) = [] := by decide +kernel
    simp only [paraR, this, List.map_nil]
  · rw [e, blocksOf_cons, k1, ha, List.drop_zero, h2.1, b1]
    exact ⟨a, _, rfl, rfl, by simp; omega⟩
set_option maxRecDepth 100000 in
set_option maxHeartbeats 8000000 in
theorem blocksEmpty_true (v : Value) (xs : List Int) (m : Int) (w : World) (hm : Glob m w) (hR : Rd w w.heap.size v (xs.map (Value.int .u8))) (hwf : ∀ x ∈ xs, (Lit.int .u8 x).wf = true) (hl : xs.length ≤ 140737488355328) :
    Calls Tryz.prog 6 #[v] w fun e w' => e = .returned (.bool true) ∧ Below w.heap.size w w' := by
  obtain ⟨A, c, rfl, hcl, f⟩ := hR.form
  rw [List.length_map] at hcl ⊢
  have F : Hid (∀ (j : Nat) x, xs[j]? = some x → ∃ b off, A = some ⟨b, off, none⟩ ∧ b < w.heap.size ∧ w.cell? ⟨b, off + j, none⟩ = some (.int .u8 x)) := fun j x hj => by
    obtain ⟨b, off, h1, h2, h3⟩ := f j (.int .u8 x) (by rw [List.getElem?_map, hj]; rfl)
    exact ⟨b, off, h1, by omega, h3⟩
  have HW : Hid (∀ x ∈ xs, 0 ≤ x ∧ x ≤ 255) := fun x hx => by
    obtain ⟨h1, h2⟩ := bounds_u8 (hwf x hx)
    exact ⟨h1, by omega⟩
  clear hR f hwf
  obtain ⟨n, hn⟩ : ∃ n, xs.length = n := ⟨_, rfl⟩
  rw [hn] at hl hcl ⊢
  have CA := alive_any hm
  have HM := Lib.hid hm
  have HN := Lib.hid hn
  clear hm hn
  go_enter Tryz.func6, Tryz.ntmps6
  go_wp2_with fail
  refine CA.mono ?_
  clear CA
  rintro e w1 ⟨rfl, hb1⟩
  by_cases hbig : 300 < n
  · have hbi : decide (300 < (n : Int)) = true := by simp; omega
    have CA := alive_any (HM.out.below hb1)
    have HB1 := Lib.hid hb1
    clear hb1
    go_wp2_with fail
    refine CA.mono ?_
    rintro e w2 ⟨rfl, hb2⟩
    go_wp2
    go_ret
    exact ⟨rfl, HB1.out.trans (hb2.mono HB1.out.size)⟩
  · have hbi : decide (300 < (n : Int)) = false := by simp; omega
    have hs1 := hb1.size
    have HB1 := Lib.hid hb1
    clear hb1
    go_wp2
    go_loopg [3, 4] n (fun q vt vi wr => ∃ k : Nat, k + q = n ∧ vi = .int .i64 (k : Int) ∧ Hid (wr.ownsRow w1.heap.size 9 1 vt k (((xs.take k).map eTx).map Value.string) ∧ Below w1.heap.size w1 wr ∧ (k = 0 → vt = .slice none 0 0)))
    case atStart => exact ⟨0, by omega, rfl, World.ownsRow_nil _ _ _ _, Below.refl _ _, fun _ => rfl⟩
    case round =>
      obtain ⟨k, hk, rfl, HK⟩ := hrel
      obtain ⟨TA, tc, rfl, _⟩ := owns_form HK.out.1
      by_cases hlt : k < n
      · obtain ⟨x, hx⟩ : ∃ x, xs[k]? = some x := ⟨_, List.getElem?_eq_getElem (by have := HN.out; omega)⟩
        obtain ⟨hx0, hx1⟩ := HW.out x (List.mem_of_getElem? hx)
        obtain ⟨b, off, rfl, hb, hc0⟩ := F.out k x hx
        replace hc0 := ((HB1.out.trans (HK.out.2.1.mono hs1)).cell (p := ⟨b, off + k, none⟩) hb).trans hc0
        have hbr : b < wr.heap.size := by have := HK.out.2.1.size; omega
        have htk : ((xs.take (k + 1)).map eTx).map Value.string = ((xs.take k).map eTx).map Value.string ++ [.string (eTx x)] := by rw [List.take_add_one, hx]; simp
        have HTK := Lib.hid htk
        have hws := HK.out.2.1.size
        have hq : x % 4 = 0 ∨ x % 4 = 1 ∨ x % 4 = 2 ∨ x % 4 = 3 := by omega
        clear htk hx
        rcases hq with hq | hq | hq | hq
        · have he : eTx x = ⟨#[]⟩ := by unfold eTx; simp [hq]
          have HE := Lib.hid he
          clear he
          go_wp2_with (at_builtin; refine wpList_app1 _ rfl _ _ 22 rfl w1.heap.size 9 (.string ⟨#[]⟩) 16 Tryz.underlying22 strs_info rfl _ k _ rfl ((HK.out.1.alloc _).alloc _) _ 1 (.string ⟨#[]⟩) rfl (by simp) rfl (by unfold maxLen; omega) (by omega) (by simp; omega) ?_)
          intro v3 w3 hown3 hgr3
          have hb3 : Below w1.heap.size w1 w3 := ((HK.out.2.1.alloc hws _).alloc (by simp; omega) _).grown hgr3 (by simp; omega) (fun q hq => by obtain ⟨_, _, _, hb⟩ := owns_form HK.out.1; exact (hb q hq).1)
          have H3 : Hid (w3.ownsRow w1.heap.size 9 1 v3 (k + 1) (((xs.take (k + 1)).map eTx).map Value.string) ∧ Below w1.heap.size w1 w3) := Lib.hid ⟨by rw [HTK.out, HE.out, List.map_map, List.map_take]; exact hown3, hb3⟩
          clear hown3 hgr3 hb3 hc0
          go_wp2
          go_roundg (gk - 1)
          case measure => omega
          case rel => exact ⟨k + 1, by omega, by go_num, H3.out.1, H3.out.2, fun e => absurd e (by omega)⟩
        · have he : eTx x = ⟨#[32]⟩ := by unfold eTx; simp [hq]
          have HE := Lib.hid he
          clear he
          go_wp2_with (at_builtin; refine wpList_app1 _ rfl _ _ 22 rfl w1.heap.size 9 (.string ⟨#[]⟩) 16 Tryz.underlying22 strs_info rfl _ k _ rfl ((HK.out.1.alloc _).alloc _) _ 1 (.string ⟨#[32]⟩) rfl (by simp) rfl (by unfold maxLen; omega) (by omega) (by simp; omega) ?_)
          intro v3 w3 hown3 hgr3
          have hb3 : Below w1.heap.size w1 w3 := ((HK.out.2.1.alloc hws _).alloc (by simp; omega) _).grown hgr3 (by simp; omega) (fun q hq => by obtain ⟨_, _, _, hb⟩ := owns_form HK.out.1; exact (hb q hq).1)
          have H3 : Hid (w3.ownsRow w1.heap.size 9 1 v3 (k + 1) (((xs.take (k + 1)).map eTx).map Value.string) ∧ Below w1.heap.size w1 w3) := Lib.hid ⟨by rw [HTK.out, HE.out, List.map_map, List.map_take]; exact hown3, hb3⟩
          clear hown3 hgr3 hb3 hc0
          go_wp2
          go_roundg (gk - 1)
          case measure => omega
          case rel => exact ⟨k + 1, by omega, by go_num, H3.out.1, H3.out.2, fun e => absurd e (by omega)⟩
        · have he : eTx x = ⟨#[9]⟩ := by unfold eTx; simp [hq]
          have HE := Lib.hid he
          clear he
          go_wp2_with (at_builtin; refine wpList_app1 _ rfl _ _ 22 rfl w1.heap.size 9 (.string ⟨#[]⟩) 16 Tryz.underlying22 strs_info rfl _ k _ rfl ((HK.out.1.alloc _).alloc _) _ 1 (.string ⟨#[9]⟩) rfl (by simp) rfl (by unfold maxLen; omega) (by omega) (by simp; omega) ?_)
          intro v3 w3 hown3 hgr3
          have hb3 : Below w1.heap.size w1 w3 := ((HK.out.2.1.alloc hws _).alloc (by simp; omega) _).grown hgr3 (by simp; omega) (fun q hq => by obtain ⟨_, _, _, hb⟩ := owns_form HK.out.1; exact (hb q hq).1)
          have H3 : Hid (w3.ownsRow w1.heap.size 9 1 v3 (k + 1) (((xs.take (k + 1)).map eTx).map Value.string) ∧ Below w1.heap.size w1 w3) := Lib.hid ⟨by rw [HTK.out, HE.out, List.map_map, List.map_take]; exact hown3, hb3⟩
          clear hown3 hgr3 hb3 hc0
          go_wp2
          go_roundg (gk - 1)
          case measure => omega
          case rel => exact ⟨k + 1, by omega, by go_num, H3.out.1, H3.out.2, fun e => absurd e (by omega)⟩
        · have he : eTx x = ⟨#[32, 9, 32]⟩ := by unfold eTx; simp [hq]
          have HE := Lib.hid he
          clear he
          go_wp2_with (at_builtin; refine wpList_app1 _ rfl _ _ 22 rfl w1.heap.size 9 (.string ⟨#[]⟩) 16 Tryz.underlying22 strs_info rfl _ k _ rfl ((HK.out.1.alloc _).alloc _) _ 1 (.string ⟨#[32, 9, 32]⟩) rfl (by simp) rfl (by unfold maxLen; omega) (by omega) (by simp; omega) ?_)
          intro v3 w3 hown3 hgr3
          have hb3 : Below w1.heap.size w1 w3 := ((HK.out.2.1.alloc hws _).alloc (by simp; omega) _).grown hgr3 (by simp; omega) (fun q hq => by obtain ⟨_, _, _, hb⟩ := owns_form HK.out.1; exact (hb q hq).1)
          have H3 : Hid (w3.ownsRow w1.heap.size 9 1 v3 (k + 1) (((xs.take (k + 1)).map eTx).map Value.string) ∧ Below w1.heap.size w1 w3) := Lib.hid ⟨by rw [HTK.out, HE.out, List.map_map, List.map_take]; exact hown3, hb3⟩
          clear hown3 hgr3 hb3 hc0
          go_wp2
          go_roundg (gk - 1)
          case measure => omega
          case rel => exact ⟨k + 1, by omega, by go_num, H3.out.1, H3.out.2, fun e => absurd e (by omega)⟩
      · obtain rfl : k = n := by omega
        obtain ⟨ts, hts⟩ : ∃ ts, xs.map eTx = ts := ⟨_, rfl⟩
        have htl : ts.length = k := by rw [← hts, List.length_map]; exact HN.out
        have H := HK.out
        rw [List.take_of_length_le (by have := HN.out; omega), hts] at H
        have hLAW := empty_law ts (fun s hs => by
          rw [← hts] at hs
          obtain ⟨x, _, rfl⟩ := List.mem_map.1 hs
          exact eTx_trim x)
        have hsz : (ts.map (·.size)).sum ≤ 900 := by
          have := sum_le_mul (l := ts) (k := 3) (fun s hs => by
            rw [← hts] at hs
            obtain ⟨x, _, rfl⟩ := List.mem_map.1 hs
            exact eTx_size x)
          omega
        have HL := Lib.hid hLAW
        have hbw := HB1.out.trans (H.2.1.mono hs1)
        have hR1 : Rd wr wr.heap.size (.slice TA k tc) (ts.map Value.string) := own_rd H.1
        have CO := of_any hR1 (Nat.le_refl _) (by omega)
        have H1 := Lib.hid (And.intro H.1 hbw)
        have HK0 := Lib.hid H.2.2
        clear hts hLAW H hbw hR1
        go_wp2_with fail
        refine CO.mono ?_
        clear CO
        rintro e w2 ⟨lv, rfl, ho, hb2⟩
        have hB2 := H1.out.2.trans (hb2.mono H1.out.2.size)
        have CP := parsed_any (xs := ts) (HM.out.below hB2) (by unfold wtT; omega) ho hb2
        have H2 := Lib.hid (And.intro hb2 hB2)
        clear ho hb2 hB2
        go_wp2_with fail
        refine CP.mono ?_
        clear CP
        rintro e w3 ⟨⟨O, F1, rb, lv2, bv, dv, rfl, hr, _, _⟩, hb3⟩
        have hb13 := H2.out.1.trans (hb3.mono H2.out.1.size)
        have hB3 := H2.out.2.trans (hb3.mono H2.out.2.size)
        obtain ⟨BA, bc, rfl⟩ := hr.bform
        obtain ⟨DA, dc, rfl⟩ := hr.dform
        rw [HL.out.1, HL.out.2.1]
        have hown3 := own_below H1.out.1 hb13
        have hk00 := HK0.out
        have H3 := Lib.hid (And.intro hB3 (And.intro hown3 hk00))
        have hkn : k ≤ 300 := by omega
        clear hr hb3 hb13 hB3 hown3 hk00
        simp only [List.length_nil]
        have hlit := own_lit w3 9 [.string ⟨#[61, 32, 120]⟩] (by show (1 : Nat) ≤ maxLen; unfold maxLen; omega)
        have hown4 : (w3.alloc (.cells #[.string ⟨#[61, 32, 120]⟩] 9)).ownsRow w1.heap.size 9 1 (.slice TA k tc) k (ts.map Value.string) := H3.out.2.1.alloc _
        have HLI := Lib.hid (And.intro hlit hown4)
        clear hlit hown4
        by_cases hk0 : k = 0
        · obtain ⟨rfl, rfl⟩ : TA = none ∧ tc = 0 := by
            have := H3.out.2.2 hk0
            injection this with e1 e2 e3
            exact ⟨e1, e3⟩
          have hts0 : ts = [] := List.length_eq_zero_iff.1 (by omega)
          have HT0 := Lib.hid hts0
          subst hk0
          clear hts0
          obtain ⟨i0, hi0, hz0, hz1, hz2⟩ := info_parts strs_info
          have hown4 : (w3.alloc (.cells #[.string ⟨#[61, 32, 120]⟩] 9)).ownsRow w3.heap.size 9 1 (.slice (some ⟨w3.heap.size, 0, none⟩) 1 1) 1 ((⟨#[61, 32, 120]⟩ :: ts).map Value.string) := by rw [HT0.out]; exact HLI.out.1
          have hb4 : Below w3.heap.size w3 (w3.alloc (.cells #[.string ⟨#[61, 32, 120]⟩] 9)) := (Below.refl _ _).alloc (Nat.le_refl _) _
          have hs4 := hb4.size
          have H4 := Lib.hid (And.intro hown4 hb4)
          clear hown4 hb4
          go_wp2_with (first | (at_builtin; refine wpList_append_own_none (by rfl) _ _ _ (by rfl) w3.heap.size 9 i0 1 Tryz.underlying22 hi0 (.slice (some ⟨w3.heap.size, 0, none⟩) 1 1) 1 [.string ⟨#[61, 32, 120]⟩] (by rfl) HLI.out.1 (by rfl) ?_) | (at_builtin; refine wpList_app1 _ rfl _ _ 22 rfl w3.heap.size 9 (.string ⟨#[]⟩) 16 Tryz.underlying22 strs_info rfl _ 1 _ rfl (H4.out.1.alloc _) _ 1 (.string ⟨#[121]⟩) rfl (by simp) rfl (by unfold maxLen; omega) (by omega) (by simp; try omega) ?_))
          intro v5 w5 hown5 hgr5
          have hb5 : Below w3.heap.size w3 w5 := (H4.out.2.alloc hs4 _).grown hgr5 (by simp; try omega) (fun q hq => by obtain ⟨_, _, _, hb⟩ := owns_form H4.out.1; exact (hb q hq).1)
          have hR5 : Rd w5 w5.heap.size v5 (((⟨#[61, 32, 120]⟩ : ByteArray) :: ts ++ [(⟨#[121]⟩ : ByteArray)]).map Value.string) := by have e := own_rd hown5; simpa using e
          have hB5 := H3.out.1.trans (hb5.mono H3.out.1.size)
          have CO := of_any hR5 (Nat.le_refl _) (by simp; omega)
          have H5 := Lib.hid hB5
          clear hown5 hgr5 hb5 hR5 hB5
          go_wp2_with fail
          refine CO.mono ?_
          clear CO
          rintro e w6 ⟨lv6, rfl, ho6, hb6⟩
          have hB6 := H5.out.trans (hb6.mono H5.out.size)
          have CP := parsed_any (xs := ⟨#[61, 32, 120]⟩ :: ts ++ [⟨#[121]⟩]) (HM.out.below hB6) (by
            have e1 : (⟨#[61, 32, 120]⟩ : ByteArray).size = 3 := rfl
            have e2 : (⟨#[121]⟩ : ByteArray).size = 1 := rfl
            simp only [wtT, List.cons_append, List.map_cons, List.map_append, List.map_nil, List.sum_cons, List.sum_append, List.sum_nil, List.length_cons, List.length_append, List.length_nil, e1, e2]
            omega) ho6 hb6
          have H6 := Lib.hid hB6
          clear ho6 hb6 hB6
          go_wp2_with fail
          refine CP.mono ?_
          clear CP
          rintro e w7 ⟨⟨O, F1, rb, lv2, bv, dv, rfl, hr, _, _⟩, hb7⟩
          have H7 := Lib.hid (H6.out.trans (hb7.mono H6.out.size))
          obtain ⟨BA2, bc2, rfl⟩ := hr.bform
          obtain ⟨DA2, dc2, rfl⟩ := hr.dform
          obtain ⟨a, b2, hab, hk2, hl2⟩ := HL.out.2.2.2
          rw [hab, HL.out.2.2.1] at hr ⊢
          obtain ⟨g7, _, _, _, _, rfl, _, _, _, c0, _, _, _, _, _, _, _, c8⟩ := hr.blk_at (j := 1) (x := b2) rfl
          rw [hk2] at c0
          rw [hl2, htl] at c8
          simp only [List.length_cons, List.length_nil, Nat.one_mul] at c0 c8 ⊢
          clear hr hb7 hab hk2 hl2
          go_wp2
          go_ret
          exact ⟨ret_bool (by simp), H7.out⟩
        · obtain ⟨gt, tcap, htv, _⟩ := own_some H3.out.2.1 (by omega)
          have htv2 : TA = some ⟨gt, 0, none⟩ := by injection htv
          subst htv2
          clear htv
          obtain ⟨i0, hi0, hz0, hz1, hz2⟩ := info_parts strs_info
          go_wp2_with (at_builtin; refine wpList_append_lies _ (by rfl) _ _ _ (by rfl) w3.heap.size 9 i0 _ 1 16 Tryz.underlying22 hi0 hz0 hz1 hz2 rfl (by omega) (.slice (some ⟨w3.heap.size, 0, none⟩) 1 1) 1 [.string ⟨#[61, 32, 120]⟩] (by rfl) HLI.out.1 ⟨gt, 0, none⟩ k tc (ts.map Value.string) (by rfl) (by rw [List.length_map]; omega) (fun j u hu => HLI.out.2.cells (g := gt) rfl j u hu) (fun u hu => by obtain ⟨_, _, rfl⟩ := List.mem_map.1 hu; rfl) (by omega) (by unfold maxLen; omega) (by omega) (by simp) (w3.heap.size + 1) (by simp) ?_)
          intro g4 cap4 W4 hown4' hg4 hat4 _
          have hown4 : W4.ownsRow w3.heap.size 9 1 (.slice (some ⟨g4, 0, none⟩) (1 + k) cap4) (1 + k) ((⟨#[61, 32, 120]⟩ :: ts).map Value.string) := hown4'
          have hb4 : Below w3.heap.size w3 W4 := ((Below.refl _ _).alloc (Nat.le_refl _) _).grown hg4 (by simp) (fun q hq => by
            have e : w3.heap.size = q := by simpa [Value.ownBlock] using hq
            omega)
          clear hown4' hg4 hat4
          have hs4 := hb4.size
          have H4 := Lib.hid (And.intro hown4 hb4)
          clear hown4 hb4 hi0 hz0 hz1 hz2
          go_wp2_with (at_builtin; refine wpList_app1 _ rfl _ _ 22 rfl w3.heap.size 9 (.string ⟨#[]⟩) 16 Tryz.underlying22 strs_info rfl _ (1 + k) _ rfl (H4.out.1.alloc _) _ 1 (.string ⟨#[121]⟩) rfl (by simp) rfl (by unfold maxLen; omega) (by omega) (by simp; try omega) ?_)
          intro v5 w5 hown5 hgr5
          have hb5 : Below w3.heap.size w3 w5 := (H4.out.2.alloc hs4 _).grown hgr5 (by simp; try omega) (fun q hq => by obtain ⟨_, _, _, hb⟩ := owns_form H4.out.1; exact (hb q hq).1)
          have hR5 : Rd w5 w5.heap.size v5 (((⟨#[61, 32, 120]⟩ : ByteArray) :: ts ++ [(⟨#[121]⟩ : ByteArray)]).map Value.string) := by have e := own_rd hown5; simpa using e
          have hB5 := H3.out.1.trans (hb5.mono H3.out.1.size)
          have CO := of_any hR5 (Nat.le_refl _) (by simp; omega)
          have H5 := Lib.hid hB5
          clear hown5 hgr5 hb5 hR5 hB5
          go_wp2_with fail
          refine CO.mono ?_
          clear CO
          rintro e w6 ⟨lv6, rfl, ho6, hb6⟩
          have hB6 := H5.out.trans (hb6.mono H5.out.size)
          have CP := parsed_any (xs := ⟨#[61, 32, 120]⟩ :: ts ++ [⟨#[121]⟩]) (HM.out.below hB6) (by
            have e1 : (⟨#[61, 32, 120]⟩ : ByteArray).size = 3 := rfl
            have e2 : (⟨#[121]⟩ : ByteArray).size = 1 := rfl
            simp only [wtT, List.cons_append, List.map_cons, List.map_append, List.map_nil, List.sum_cons, List.sum_append, List.sum_nil, List.length_cons, List.length_append, List.length_nil, e1, e2]
            omega) ho6 hb6
          have H6 := Lib.hid hB6
          clear ho6 hb6 hB6
          go_wp2_with fail
          refine CP.mono ?_
          clear CP
          rintro e w7 ⟨⟨O, F1, rb, lv2, bv, dv, rfl, hr, _, _⟩, hb7⟩
          have H7 := Lib.hid (H6.out.trans (hb7.mono H6.out.size))
          obtain ⟨BA2, bc2, rfl⟩ := hr.bform
          obtain ⟨DA2, dc2, rfl⟩ := hr.dform
          obtain ⟨a, b2, hab, hk2, hl2⟩ := HL.out.2.2.2
          rw [hab, HL.out.2.2.1] at hr ⊢
          obtain ⟨g7, _, _, _, _, rfl, _, _, _, c0, _, _, _, _, _, _, _, c8⟩ := hr.blk_at (j := 1) (x := b2) rfl
          rw [hk2] at c0
          rw [hl2, htl] at c8
          simp only [List.length_cons, List.length_nil, Nat.one_mul] at c0 c8 ⊢
          clear hr hb7 hab hk2 hl2
          go_wp2
          go_ret
          exact ⟨ret_bool (by simp), H7.out⟩
end Go.Proofs.YtcjmfjccjhdgjaaGreatDoor
namespace Go.Bd
open Go.RowKit
def fenceB : ByteArray := ⟨#[45, 45, 45, 45]⟩
/-- no four hyphens within -/
def NoF (s : ByteArray) : Prop := ∀ k, k + 4 ≤ s.size → s.extract k (k + 4) ≠ fenceB
theorem trim_mid (l : Bs) : ∃ a b, l = a ++ trim l ++ b := by
  refine ⟨l.takeWhile blank, ((l.dropWhile blank).reverse.takeWhile blank).reverse, ?_⟩
  unfold trim dropR dropL
  have h1 := List.takeWhile_append_dropWhile (p := blank) (l := l)
  have h2 := List.takeWhile_append_dropWhile (p := blank) (l := (l.dropWhile blank).reverse)
  have h3 := congrArg List.reverse h2
  rw [List.reverse_append, List.reverse_reverse] at h3
  rw [List.append_assoc, h3, h1]
theorem NoF.trim {s : ByteArray} (h : NoF s) : Bd.trim s.data.toList ≠ fenceL := fun e => by
  obtain ⟨a, b, hab⟩ := trim_mid s.data.toList
  rw [e] at hab
  have hl : s.size = a.length + 4 + b.length := by rw [size_list, hab]; simp [fenceL]; omega
  refine h a.length (by omega) ?_
  have : (s.extract a.length (a.length + 4)).data.toList = fenceB.data.toList := by
    rw [extract_list, hab, List.append_assoc, List.drop_left]
    simp [fenceL, fenceB]
  cases hx : s.extract a.length (a.length + 4) with
  | mk d => rw [hx] at this; exact congrArg ByteArray.mk (Array.toList_inj.1 this)
theorem untilN_cons (st : Bs → Bool) (x : Ln) (l : List Ln) : untilN st (x :: l) = if st (Bd.trim x.text.data.toList) = true then 0 else untilN st l + 1 := rfl
theorem untilN_none {st : Bs → Bool} : ∀ {l : List ByteArray} (n : Nat) (t : List Ln), (∀ s ∈ l, st (Bd.trim s.data.toList) = false) → untilN st (lnsFrom n l ++ t) = l.length + untilN st t
  | [], n, t, _ => by simp [lnsFrom]
  | x :: l, n, t, h => by
    have ih := untilN_none (l := l) (n + 1) t (fun s hs => h s (List.mem_cons_of_mem _ hs))
    have hx := h x (List.mem_cons_self ..)
    rw [lnsFrom, List.cons_append, untilN_cons]
    simp only
    rw [if_neg (by rw [hx]; simp), ih, List.length_cons]
    omega
theorem lns_texts : ∀ (n : Nat) (l : List ByteArray), (lnsFrom n l).map (fun x => x.text.data.toList) = l.map (·.data.toList)
  | n, [] => rfl
  | n, x :: l => by rw [lnsFrom, List.map_cons, List.map_cons, lns_texts]
def wantB (l : List ByteArray) : ByteArray := ⟨(Lib.join (l.map (·.data.toList)) [10]).toArray⟩
theorem wantB_one (s : ByteArray) : wantB [s] = s := by
  unfold wantB
  simp [Lib.join_one]
theorem wantB_snoc (l : List ByteArray) (s : ByteArray) (hl : l ≠ []) : wantB (l ++ [s]) = (wantB l ++ ⟨#[10]⟩) ++ s := by
  obtain ⟨x, r, rfl⟩ := List.exists_cons_of_ne_nil hl
  have h := join_snoc x.data.toList s.data.toList [10] (r.map (·.data.toList))
  unfold wantB
  rw [List.map_append, List.map_cons, List.map_cons, List.map_nil, h]
  have e : ∀ a b : ByteArray, (a ++ b).data.toList = a.data.toList ++ b.data.toList := fun a b => by simp
  refine mk_of (u := _) ?_ |>.symm
  rw [e, e]
  simp
theorem wantB_size (l : List ByteArray) : (wantB l).size ≤ wtT l := by
  unfold wantB wtT
  rw [size_mk]
  induction l with
  | nil => simp [Lib.join_nil]
  | cons x r ih =>
    cases r with
    | nil => simp [Lib.join_one]
    | cons y r =>
      rw [List.map_cons, Lib.join_cons] at *
      rw [List.map_cons, Lib.joinTail, List.map_cons, List.flatten_cons] 
      rw [List.length_append] at *
      simp only [Lib.joinTail, List.length_append, List.length_cons, List.length_nil, List.map_cons, List.sum_cons] at ih ⊢
      have := size_list x
      omega
end Go.Bd
namespace Go.Proofs.YtcjmfjccjhdgjaaGreatDoor
open Go.RowKit Go.Bd
theorem step_exn (no : Int) (rest : List Ln) : stepR ⟨⟨#[102]⟩, no, ⟨#[61, 32, 120]⟩⟩ rest = headR ⟨#[102]⟩ no ⟨#[61, 32, 120]⟩ := by
  unfold stepR
  simp only
  rw [show trim (⟨#[61, 32, 120]⟩ : ByteArray).data.toList = trim [61, 32, 120] from rfl, cmd_ex]
  simp only
  rw [show tr ⟨#[61, 32, 120]⟩ = ⟨#[61, 32, 120]⟩ by decide]
  unfold readR
  rw [if_pos (show 0 < (leadB (⟨#[61, 32, 120]⟩ : ByteArray).data.toList 61).1 from read_ex)]
theorem titled_x (no : Int) : titledD ⟨#[102]⟩ no ⟨#[120]⟩ = [] := by
  unfold titledD titledW
  rw [show titleB (⟨#[120]⟩ : ByteArray).data.toList = ([120], [], []) by decide]
  simp only [if_true, List.nil_append]
  rw [show faultsOf [120] = [] by decide +kernel]
  rfl
theorem head_x (no : Int) : (headR ⟨#[102]⟩ no ⟨#[61, 32, 120]⟩).2.2 = [] := by
  have e : (headR ⟨#[102]⟩ no ⟨#[61, 32, 120]⟩).2.2 = titledD ⟨#[102]⟩ no ⟨(leadB [61, 32, 120] 61).2.toArray⟩ := rfl
  rw [e, show (leadB [61, 32, 120] 61).2 = [120] by decide]
  exact titled_x no
theorem step_fence (no : Int) (rest : List Ln) : stepR ⟨⟨#[102]⟩, no, fenceB⟩ rest = codeR ⟨#[102]⟩ no fenceB rest := by
  unfold stepR
  simp only
  rw [show trim fenceB.data.toList = fenceL by decide, show commandB fenceL = none by decide]
  simp only
  rw [show tr fenceB = fenceB by decide]
  unfold readR
  rw [if_neg (by decide), if_neg (by decide), if_neg (by decide), if_pos (by decide)]
theorem code_law (l : List ByteArray) (h : ∀ s ∈ l, NoF s) :
    (diagsOf (linesOf (fenceB :: l ++ [⟨#[32, 45, 45, 45, 45]⟩, ⟨#[61, 32, 120]⟩])) = [] ∧ ∃ a b, blocksOf (linesOf (fenceB :: l ++ [⟨#[32, 45, 45, 45, 45]⟩, ⟨#[61, 32, 120]⟩])) = [a, b] ∧ a.kind = 4 ∧ a.text = wantB l ∧ b.kind = 1 ∧ b.line = (l.length : Int) + 3) ∧
    ∃ a, blocksOf (linesOf (fenceB :: l)) = [a] ∧ a.text = wantB l ∧ diagsOf (linesOf (fenceB :: l)) = [⟨⟨#[102]⟩, 1, 4, fenceB⟩] := by
  have hn : ∀ s ∈ l, (fun t => t == fenceL) (trim s.data.toList) = false := fun s hs => by
    have := (h s hs).trim
    simpa using this
  have et : ∀ t : List Ln, ((lnsFrom 2 l ++ t).take l.length).map (fun x => x.text.data.toList) = l.map (·.data.toList) := fun t => by
    rw [List.take_append_of_le_length (by rw [lnsFrom_length]; exact Nat.le_refl _), List.take_of_length_le (by rw [lnsFrom_length]; exact Nat.le_refl _), lns_texts]
  constructor
  · have e : linesOf (fenceB :: l ++ [⟨#[32, 45, 45, 45, 45]⟩, ⟨#[61, 32, 120]⟩]) = ⟨⟨#[102]⟩, 1, fenceB⟩ :: (lnsFrom 2 l ++ lnsFrom (2 + l.length) [⟨#[32, 45, 45, 45, 45]⟩, ⟨#[61, 32, 120]⟩]) := by
      unfold linesOf
      rw [List.cons_append, lnsFrom, lnsFrom_append]
      rfl
    have e2 : lnsFrom (2 + l.length) [⟨#[32, 45, 45, 45, 45]⟩, ⟨#[61, 32, 120]⟩] = [⟨⟨#[102]⟩, ((2 + l.length : Nat) : Int), ⟨#[32, 45, 45, 45, 45]⟩⟩, ⟨⟨#[102]⟩, ((2 + l.length + 1 : Nat) : Int), ⟨#[61, 32, 120]⟩⟩] := rfl
    have hk : codeN (lnsFrom 2 l ++ lnsFrom (2 + l.length) [⟨#[32, 45, 45, 45, 45]⟩, ⟨#[61, 32, 120]⟩]) 0 = l.length := by
      unfold codeN
      rw [List.drop_zero, untilN_none 2 _ hn, e2]
      rw [untilN_cons, if_pos (by show (trim [32, 45, 45, 45, 45] == fenceL) = true; decide)]
      omega
    have hlen : (lnsFrom 2 l ++ lnsFrom (2 + l.length) [⟨#[32, 45, 45, 45, 45]⟩, ⟨#[61, 32, 120]⟩]).length = l.length + 2 := by rw [List.length_append, lnsFrom_length, lnsFrom_length]; rfl
    have hT : codeR ⟨#[102]⟩ 1 fenceB (lnsFrom 2 l ++ lnsFrom (2 + l.length) [⟨#[32, 45, 45, 45, 45]⟩, ⟨#[61, 32, 120]⟩]) = (l.length + 1, [⟨4, 0, false, ⟨#[]⟩, wantB l, [], [], ⟨#[102]⟩, 1⟩], []) := by
      unfold codeR codeT endN
      rw [List.drop_zero, hk, hlen, if_pos (by omega), if_pos (by omega), et]
      rfl
    have hdr : (lnsFrom 2 l ++ lnsFrom (2 + l.length) [⟨#[32, 45, 45, 45, 45]⟩, ⟨#[61, 32, 120]⟩]).drop (l.length + 1) = [⟨⟨#[102]⟩, ((2 + l.length + 1 : Nat) : Int), ⟨#[61, 32, 120]⟩⟩] := by
      have h0 : (lnsFrom 2 l).length = l.length := lnsFrom_length _ _
      rw [List.drop_append, h0, List.drop_of_length_le (by omega), Nat.add_sub_cancel_left, e2]
      rfl
    refine ⟨?_, ?_⟩
    · rw [e, diagsOf_cons, step_fence, hT]
      simp only
      rw [hdr, diagsOf_cons, step_exn, head_x]
      rfl
    · rw [e, blocksOf_cons, step_fence, hT]
      simp only
      rw [hdr, blocksOf_cons, step_exn]
      refine ⟨_, _, rfl, rfl, rfl, rfl, ?_⟩
      show ((2 + l.length + 1 : Nat) : Int) = (l.length : Int) + 3
      omega
  · have e : linesOf (fenceB :: l) = ⟨⟨#[102]⟩, 1, fenceB⟩ :: (lnsFrom 2 l ++ []) := by
      unfold linesOf
      rw [lnsFrom, List.append_nil]
      rfl
    have hk : codeN (lnsFrom 2 l ++ []) 0 = l.length := by
      unfold codeN
      rw [List.drop_zero, untilN_none 2 _ hn]
      rfl
    have hlen : (lnsFrom 2 l ++ []).length = l.length := by rw [List.append_nil, lnsFrom_length]
    have hT : codeR ⟨#[102]⟩ 1 fenceB (lnsFrom 2 l ++ []) = (l.length, [⟨4, 0, false, ⟨#[]⟩, wantB l, [], [], ⟨#[102]⟩, 1⟩], [⟨⟨#[102]⟩, 1, 4, fenceB⟩]) := by
      unfold codeR codeT endN
      rw [List.drop_zero, hk, hlen, if_neg (by omega), if_neg (by omega), et]
      rfl
    have hdr : (lnsFrom 2 l ++ []).drop l.length = [] := List.drop_of_length_le (by rw [hlen]; exact Nat.le_refl _)
    refine ⟨⟨4, 0, false, ⟨#[]⟩, wantB l, [], [], ⟨#[102]⟩, 1⟩, ?_, rfl, ?_⟩
    · rw [e, blocksOf_cons, step_fence, hT]
      simp only
      rw [hdr, blocksOf_nil]
      rfl
    · rw [e, diagsOf_cons, step_fence, hT]
      simp only
      rw [hdr, diagsOf_nil]
      rfl
end Go.Proofs.YtcjmfjccjhdgjaaGreatDoor
namespace Go.Proofs.YtcjmfjccjhdgjaaGreatDoor
open Go.RowKit Go.Bd
theorem texts_form {w : World} {B : Nat} {v : Value} {xs : List ByteArray} (h : Rd w B v (xs.map Value.string)) : ∃ A c, v = .slice A xs.length c ∧ xs.length ≤ c ∧ ∀ (j : Nat) s, xs[j]? = some s → ∃ b off, A = some ⟨b, off, none⟩ ∧ b < B ∧ w.cell? ⟨b, off + j, none⟩ = some (.string s) := by
  obtain ⟨A, c, hv, hc, h⟩ := Rd.form h
  rw [List.length_map] at hv hc
  exact ⟨A, c, hv, hc, fun j s hj => h j _ (by rw [List.getElem?_map, hj]; rfl)⟩
theorem sum_take_succ {xs : List Nat} {k x : Nat} (h : xs[k]? = some x) : (xs.take (k + 1)).sum = (xs.take k).sum + x := by
  obtain ⟨hk, e⟩ := List.getElem?_eq_some_iff.1 h
  rw [List.take_succ_eq_append_getElem hk, List.sum_append, e]; simp
/-- the size of texts, where it is not beyond all -/
def textsOk (xs : List ByteArray) (n : Nat) : Prop := n ≤ 1048576 → n = xs.length + (xs.map ByteArray.size).sum
set_option maxRecDepth 100000 in
theorem textsSize_any (v : Value) (xs : List ByteArray) (w : World) (B : Nat) (h : Rd w B v (xs.map Value.string)) (hl : xs.length ≤ 140737488355328) (hx : ∀ s ∈ xs, s.size ≤ 140737488355328) :
    Calls Tryz.prog 10 #[v] w fun e w' => (∃ n : Nat, e = .returned (.int .i64 n) ∧ n ≤ 281474976710656 ∧ textsOk xs n) ∧ w = w' := by
  obtain ⟨A, c, rfl, hc, f⟩ := texts_form h
  have F := Lib.hid f
  have HX := Lib.hid hx
  clear f hx h
  generalize hn : xs.length = n at hl hc ⊢
  have HN := Lib.hid hn
  clear hn
  go_enter Tryz.func10, Tryz.ntmps10
  go_wp2
  go_loopg [3, 4] n (fun r s i wr => ∃ k t : Nat, k + r = n ∧ i = .int .i64 k ∧ s = .int .i64 t ∧ t ≤ 281474976710656 ∧ Hid (t = n + ((xs.map ByteArray.size).take k).sum) ∧ w = wr)
  case atStart => exact ⟨0, n, by omega, rfl, rfl, by omega, by unfold Hid; simp, rfl⟩
  case round =>
    obtain ⟨k, t, hk, rfl, rfl, ht, HT, rfl⟩ := hrel
    by_cases hlt : k < n
    · by_cases hbig : t ≤ 1048576
      · obtain ⟨x, hxk⟩ : ∃ x, xs[k]? = some x := ⟨_, List.getElem?_eq_getElem (by rw [HN.out]; exact hlt)⟩
        obtain ⟨b, off, rfl, _, hcx⟩ := F.out k x hxk
        have hxb := HX.out x (List.mem_of_getElem? hxk)
        have HS := Lib.hid (sum_take_succ (xs := xs.map ByteArray.size) (k := k) (x := x.size) (by rw [List.getElem?_map, hxk]; rfl))
        clear hxk
        go_wp2
        go_roundg (gk - 1)
        case measure => omega
        case rel => exact ⟨k + 1, t + x.size, by omega, by go_num, by go_num, by omega, by unfold Hid; rw [HS.out, HT.out]; omega, rfl⟩
      · go_wp2
        go_ret
        exact ⟨⟨t, rfl, ht, fun h => absurd h (by omega)⟩, rfl⟩
    · go_wp2
      all_goals
        go_ret
        refine ⟨⟨t, rfl, ht, fun _ => ?_⟩, rfl⟩
        have h1 := HT.out
        rw [List.take_of_length_le (by rw [List.length_map, HN.out]; omega)] at h1
        rw [HN.out]; exact h1
end Go.Proofs.YtcjmfjccjhdgjaaGreatDoor
namespace Go.Proofs.YtcjmfjccjhdgjaaGreatDoor
open Go.RowKit Go.Bd
theorem sum_ge {xs : List ByteArray} {s : ByteArray} (h : s ∈ xs) : s.size ≤ wtT xs := by
  have := le_sum_mem (List.mem_map.2 ⟨s, h, rfl⟩ : s.size ∈ xs.map (·.size))
  unfold wtT; omega
theorem wtT_take (xs : List ByteArray) (k : Nat) : wtT (xs.take k) ≤ wtT xs := by
  have := sum_take_le (xs.map (·.size)) k
  unfold wtT
  rw [List.map_take, List.length_take]
  omega
set_option maxRecDepth 100000 in
set_option maxHeartbeats 16000000 in
theorem blocksCode_true (v : Value) (xs : List ByteArray) (m : Int) (w : World) (hm : Glob m w) (hR : Rd w w.heap.size v (xs.map Value.string)) (hb : xs.length ≤ 140737488355328 ∧ ∀ s ∈ xs, s.size ≤ 140737488355328) :
    Calls Tryz.prog 5 #[v] w fun e w' => e = .returned (.bool true) ∧ Below w.heap.size w w' := by
  obtain ⟨A, c, rfl, hcl, f⟩ := texts_form hR
  have CA := alive_any hm
  have CT := fun (W : World) (hW : Below w.heap.size w W) => textsSize_any _ xs W w.heap.size (hR.below hW) hb.1 hb.2
  have HM := Lib.hid (And.intro hm hR)
  have HT := Lib.hid CT
  have F := Lib.hid f
  obtain ⟨n, hn⟩ : ∃ n, xs.length = n := ⟨_, rfl⟩
  rw [hn] at HM HT hcl ⊢
  have hnb : n ≤ 140737488355328 := hn ▸ hb.1
  have HN := Lib.hid hn
  clear hm hR hb CT hn f
  go_enter Tryz.func5, Tryz.ntmps5
  go_wp2_with fail
  refine CA.mono ?_
  clear CA
  rintro e w1 ⟨rfl, hb1⟩
  have HB1 := Lib.hid hb1
  clear hb1
  by_cases hbig : 300 < n
  · have hbi : decide (300 < (n : Int)) = true := by simp; omega
    have CA := alive_any (HM.out.1.below HB1.out)
    go_wp2_with fail
    refine CA.mono ?_
    rintro e w2 ⟨rfl, hb2⟩
    go_wp2
    go_ret
    exact ⟨rfl, HB1.out.trans (hb2.mono HB1.out.size)⟩
  have hbi : decide (300 < (n : Int)) = false := by simp; omega
  have C1 := HT.out w1 HB1.out
  go_wp2_with fail
  refine C1.mono ?_
  clear C1
  rintro e w2 ⟨⟨z, rfl, hz, hok⟩, rfl⟩
  by_cases hz4 : 4000 < z
  · have hzi : decide (4000 < (z : Int)) = true := by simp; omega
    have CA := alive_any (HM.out.1.below HB1.out)
    clear hok
    go_wp2_with fail
    refine CA.mono ?_
    rintro e w2 ⟨rfl, hb2⟩
    go_wp2
    go_ret
    exact ⟨rfl, HB1.out.trans (hb2.mono HB1.out.size)⟩
  have hzi : decide (4000 < (z : Int)) = false := by simp; omega
  have hwt : wtT xs ≤ 4000 := by have h1 := hok (by omega); have h2 : (xs.map ByteArray.size).sum = (xs.map (·.size)).sum := rfl; unfold wtT; omega
  have HWT := Lib.hid hwt
  have hs1 := HB1.out.size
  clear hok hwt
  go_wp2
  have hlit := own_lit w1 9 [.string ⟨#[45, 45, 45, 45]⟩] (by show (1 : Nat) ≤ maxLen; unfold maxLen; omega)
  have hlb : Below w1.heap.size w1 (w1.alloc (.cells #[.string ⟨#[45, 45, 45, 45]⟩] 9)) := (Below.refl _ _).alloc (Nat.le_refl _) _
  have HLI := Lib.hid (And.intro hlit hlb)
  clear hlit hlb
  go_loopg [3, 4, 5, 6] n (fun q vw va vi v6 wr => ∃ (k : Nat) (wb : ByteArray), k + q = n ∧ vi = .int .i64 (k : Int) ∧ vw = .string wb ∧ Hid (wb = wantB (xs.take k) ∧ (∀ s ∈ xs.take k, NoF s) ∧ wr.ownsRow w1.heap.size 9 1 va (k + 1) ((fenceB :: xs.take k).map Value.string) ∧ Below w1.heap.size w1 wr))
  case atStart => exact ⟨0, ⟨#[]⟩, by omega, rfl, rfl, by rw [List.take_zero]; decide, (fun s hs => by rw [List.take_zero] at hs; cases hs), HLI.out.1, HLI.out.2⟩
  case round =>
    obtain ⟨k, wb, hk, rfl, rfl, HK⟩ := hrel
    obtain ⟨TA, tc, rfl, _⟩ := owns_form HK.out.2.2.1
    have hwsz : wb.size ≤ 4000 := by
      have h1 := wantB_size (xs.take k)
      have h2 := wtT_take xs k
      have h3 := HWT.out
      rw [← HK.out.1] at h1
      omega
    by_cases hlt : k < n
    · obtain ⟨s, hs⟩ : ∃ s, xs[k]? = some s := ⟨_, List.getElem?_eq_getElem (by have := HN.out; omega)⟩
      obtain ⟨b, off, rfl, hb, hc0⟩ := F.out k s hs
      have hsz : s.size ≤ 4000 := by have := sum_ge (List.mem_of_getElem? hs); have := HWT.out; omega
      replace hc0 := ((HB1.out.trans (HK.out.2.2.2.mono hs1)).cell (p := ⟨b, off + k, none⟩) hb).trans hc0
      have HS := Lib.hid hs
      clear hs
      go_wp2
      obtain ⟨gO, hgO2⟩ : ∃ q, q = gk := ⟨_, rfl⟩
      subst hgO2
      obtain ⟨wO, hwO⟩ : ∃ q, q = wr := ⟨_, rfl⟩
      subst hwO
      go_loopg [6] s.size (fun q vj wr => ∃ j : Nat, j + q = s.size ∧ vj = .int .i64 (j : Int) ∧ wr = wO ∧ Hid (∀ i, i < j → i + 4 ≤ s.size → s.extract i (i + 4) ≠ fenceB))
      case atStart => exact ⟨0, by omega, rfl, rfl, fun i hi => absurd hi (by omega)⟩
      case round =>
        obtain ⟨j, hj, rfl, rfl, HJ⟩ := hrel
        by_cases hlt2 : j + 4 ≤ s.size
        · have hji : (j : Int) + 4 ≤ (s.size : Int) := by omega
          have hjd : decide ((j : Int) + 4 ≤ (s.size : Int)) = true := decide_eq_true hji
          have hj0 : (0 : Int) ≤ (j : Int) := by omega
          have hj1 : (j : Int) ≤ (j : Int) + 4 := by omega
          by_cases he : s.extract j (j + 4) = fenceB
          · unfold fenceB at he
            go_wp2
            go_ret
            exact ⟨rfl, HB1.out.trans (HK.out.2.2.2.mono hs1)⟩
          · have n4 : ((s.extract j (j + 4)).toList == ([45, 45, 45, 45] : Bs)) = false := by
              rw [ByteArray.toList_eq]
              exact beq_eq_false_iff_ne.2 (fun e => he (ba_ext e))
            have HE := Lib.hid he
            clear he
            go_wp2
            go_roundg (gk - 1)
            case measure => omega
            case rel => exact ⟨j + 1, by omega, by go_num, rfl, fun i hi hi2 => by
              by_cases hij : i < j
              · exact HJ.out i hij hi2
              · obtain rfl : i = j := by omega
                exact HE.out⟩
        · have hjd : decide ((j : Int) + 4 ≤ (s.size : Int)) = false := decide_eq_false (by omega)
          have hno : NoF s := fun i hi => HJ.out i (by omega) hi
          have HNO := Lib.hid hno
          clear hno
          -- BEHIND
          have hws := HK.out.2.2.2.size
          by_cases hk0 : k = 0
          · have hkd : decide ((0 : Int) < (k : Int)) = false := decide_eq_false (by omega)
            have hwb0 : wb = ⟨#[]⟩ := by
              rw [HK.out.1, hk0, List.take_zero]
              decide
            have HW0 := Lib.hid (And.intro hk0 hwb0)
            have hk1 : ¬ (0 : Int) < (k : Int) := by omega
            clear hk0 hwb0
            go_wp2_with (at_builtin; refine wpList_app1 _ rfl _ _ 22 rfl w1.heap.size 9 (.string ⟨#[]⟩) 16 Tryz.underlying22 strs_info rfl _ (k + 1) _ rfl (HK.out.2.2.1.alloc _) _ 1 (.string s) rfl (by simp) rfl (by unfold maxLen; omega) (by omega) (by simp; omega) ?_)
            intro v3 w3 hown3 hgr3
            have hb3 : Below w1.heap.size w1 w3 := (HK.out.2.2.2.alloc hws _).grown hgr3 (by simp; omega) (fun q hq => by obtain ⟨_, _, _, hb⟩ := owns_form HK.out.2.2.1; exact (hb q hq).1)
            have htk : xs.take (k + 1) = xs.take k ++ [s] := by rw [List.take_add_one, HS.out]; rfl
            have H3 : Hid ((wb ++ s) = wantB (xs.take (k + 1)) ∧ (∀ s ∈ xs.take (k + 1), NoF s) ∧ w3.ownsRow w1.heap.size 9 1 v3 (k + 1 + 1) ((fenceB :: xs.take (k + 1)).map Value.string) ∧ Below w1.heap.size w1 w3) := by
              refine Lib.hid ⟨?_, fun t ht => ?_, ?_, hb3⟩
              · rw [htk]
                rw [HW0.out.2, HW0.out.1, List.take_zero, List.nil_append, wantB_one]
                exact ba_ext (by simp)
              · rw [htk] at ht
                rcases List.mem_append.1 ht with ht | ht
                · exact HK.out.2.1 t ht
                · rw [List.mem_singleton] at ht
                  rw [ht]; exact HNO.out
              · rw [htk, ← List.cons_append, List.map_append, List.map_cons, List.map_take]
                exact hown3
            clear hown3 hgr3 hb3 htk
            go_wp2
            go_roundg (gO - 1)
            case measure => omega
            case rel => exact ⟨k + 1, _, by omega, by go_num, rfl, H3.out⟩
          · have hkd : decide ((0 : Int) < (k : Int)) = true := decide_eq_true (by omega)
            have hk1 : (0 : Int) < (k : Int) := by omega
            have HW0 := Lib.hid hk0
            clear hk0
            go_wp2_with (at_builtin; refine wpList_app1 _ rfl _ _ 22 rfl w1.heap.size 9 (.string ⟨#[]⟩) 16 Tryz.underlying22 strs_info rfl _ (k + 1) _ rfl (HK.out.2.2.1.alloc _) _ 1 (.string s) rfl (by simp) rfl (by unfold maxLen; omega) (by omega) (by simp; omega) ?_)
            intro v3 w3 hown3 hgr3
            have hb3 : Below w1.heap.size w1 w3 := (HK.out.2.2.2.alloc hws _).grown hgr3 (by simp; omega) (fun q hq => by obtain ⟨_, _, _, hb⟩ := owns_form HK.out.2.2.1; exact (hb q hq).1)
            have htk : xs.take (k + 1) = xs.take k ++ [s] := by rw [List.take_add_one, HS.out]; rfl
            have H3 : Hid (((wb ++ ⟨#[10]⟩) ++ s) = wantB (xs.take (k + 1)) ∧ (∀ s ∈ xs.take (k + 1), NoF s) ∧ w3.ownsRow w1.heap.size 9 1 v3 (k + 1 + 1) ((fenceB :: xs.take (k + 1)).map Value.string) ∧ Below w1.heap.size w1 w3) := by
              refine Lib.hid ⟨?_, fun t ht => ?_, ?_, hb3⟩
              · rw [htk]
                rw [wantB_snoc _ _ (fun e => HW0.out (by
                  have := congrArg List.length e
                  rw [List.length_take, HN.out] at this
                  simp at this
                  omega)), ← HK.out.1]
              · rw [htk] at ht
                rcases List.mem_append.1 ht with ht | ht
                · exact HK.out.2.1 t ht
                · rw [List.mem_singleton] at ht
                  rw [ht]; exact HNO.out
              · rw [htk, ← List.cons_append, List.map_append, List.map_cons, List.map_take]
                exact hown3
            clear hown3 hgr3 hb3 htk
            go_wp2
            go_roundg (gO - 1)
            case measure => omega
            case rel => exact ⟨k + 1, _, by omega, by go_num, rfl, H3.out⟩
    · obtain rfl : k = n := by omega
      have H := HK.out
      rw [List.take_of_length_le (by have := HN.out; omega)] at H
      have hLAW := code_law xs H.2.1
      have HL := Lib.hid (And.intro hLAW H.1)
      have hbw := HB1.out.trans (H.2.2.2.mono hs1)
      have H1 := Lib.hid (And.intro H.2.2.1 (And.intro hbw H.2.2.2))
      have hxw := HWT.out
      have hxl := HN.out
      have hwz : (xs.map (·.size)).sum + xs.length ≤ 4000 := hxw
      clear H hLAW hbw hxw
      obtain ⟨gt, tcap, htv, _⟩ := own_some H1.out.1 (by omega)
      have htv2 : TA = some ⟨gt, 0, none⟩ := by injection htv
      subst htv2
      clear htv
      obtain ⟨i0, hi0, hz0, hz1, hz2⟩ := info_parts strs_info
      go_wp2_with (at_builtin; refine wpList_append_lies _ (by rfl) _ _ _ (by rfl) wr.heap.size 9 i0 _ 1 16 Tryz.underlying22 hi0 hz0 hz1 hz2 rfl (by omega) (.slice none 0 0) 0 [] (by rfl) (World.ownsRow_nil _ _ _ _) ⟨gt, 0, none⟩ (k + 1) tc ((fenceB :: xs).map Value.string) (by rfl) (by rw [List.length_map, List.length_cons]; omega) (fun j u hu => H1.out.1.cells (g := gt) rfl j u hu) (fun u hu => by obtain ⟨_, _, rfl⟩ := List.mem_map.1 hu; rfl) (by omega) (by unfold maxLen; omega) (by omega) (Nat.le_refl _) wr.heap.size rfl ?_)
      intro g4 cap4 W4 hown4' hg4 hat4 hlt4
      have hown4 : W4.ownsRow wr.heap.size 9 1 (.slice (some ⟨g4, 0, none⟩) (k + 1) cap4) (k + 1) ((fenceB :: xs).map Value.string) := hown4'
      have hb4 : Below wr.heap.size wr W4 := (Below.refl _ _).grown hg4 (Nat.le_refl _) (fun q hq => by cases hq)
      have hs4 := hb4.size
      have H4 := Lib.hid (And.intro hown4 hb4)
      clear hown4' hg4 hat4 hlt4 hown4 hb4
      go_wp2_with (at_builtin; refine wpList_append_lies _ (by rfl) _ _ _ (by rfl) wr.heap.size 9 i0 _ 1 16 Tryz.underlying22 hi0 hz0 hz1 hz2 rfl (by omega) (.slice (some ⟨g4, 0, none⟩) (k + 1) cap4) (k + 1) ((fenceB :: xs).map Value.string) (by rfl) (H4.out.1.alloc _) ⟨W4.heap.size, 0, none⟩ 2 2 [.string ⟨#[32, 45, 45, 45, 45]⟩, .string ⟨#[61, 32, 120]⟩] (by rfl) (by rfl) (World.news_of_block (cs := #[.string ⟨#[32, 45, 45, 45, 45]⟩, .string ⟨#[61, 32, 120]⟩]) (t := 9) (fr := (0, 0)) (heap_alloc_new W4 _)) (by simp [Value.oneCell']) (by omega) (by unfold maxLen; omega) (by omega) (by simp; omega) (W4.heap.size + 1) (by simp) ?_)
      intro g5 cap5 w5 hown5 hgr5 hat5 hlt5
      have hb5 : Below wr.heap.size wr w5 := (H4.out.2.alloc hs4 _).grown hgr5 (by simp; omega) (fun q hq => by obtain ⟨_, _, _, hb⟩ := owns_form H4.out.1; exact (hb q hq).1)
      have hR5 : Rd w5 w5.heap.size (.slice (some ⟨g5, 0, none⟩) (k + 1 + 2) cap5) ((fenceB :: xs ++ [(⟨#[32, 45, 45, 45, 45]⟩ : ByteArray), ⟨#[61, 32, 120]⟩]).map Value.string) := by have e := own_rd hown5; simpa using e
      have hB5 := H1.out.2.1.trans (hb5.mono H1.out.2.1.size)
      have e1 : fenceB.size = 4 := rfl
      have e2 : (⟨#[32, 45, 45, 45, 45]⟩ : ByteArray).size = 5 := rfl
      have e3 : (⟨#[61, 32, 120]⟩ : ByteArray).size = 3 := rfl
      have CO := of_any hR5 (Nat.le_refl _) (by simp; omega)
      have H5 := Lib.hid (And.intro hB5 hb5)
      have hZ := Lib.hid (And.intro hi0 hz0)
      clear hown5 hgr5 hb5 hR5 hB5 hat5 hlt5
      go_wp2_with fail
      refine CO.mono ?_
      clear CO
      rintro e w6 ⟨lv6, rfl, ho6, hb6⟩
      have hB6 := H5.out.1.trans (hb6.mono H5.out.1.size)
      have CP := parsed_any (xs := fenceB :: xs ++ [(⟨#[32, 45, 45, 45, 45]⟩ : ByteArray), ⟨#[61, 32, 120]⟩]) (HM.out.1.below hB6) (by
        simp only [wtT, List.cons_append, List.map_cons, List.map_append, List.map_nil, List.sum_cons, List.sum_append, List.sum_nil, List.length_cons, List.length_append, List.length_nil, e1, e2, e3]
        omega) ho6 hb6
      have H6 := Lib.hid (And.intro hB6 (H5.out.2.trans (hb6.mono H5.out.2.size)))
      clear ho6 hb6 hB6
      go_wp2_with fail
      refine CP.mono ?_
      clear CP
      rintro e w7 ⟨⟨O, F1, rb, lv2, bv, dv, rfl, hr, _, _⟩, hb7⟩
      have hB7 := H6.out.1.trans (hb7.mono H6.out.1.size)
      have hbr7 := H6.out.2.trans (hb7.mono H6.out.2.size)
      obtain ⟨BA2, bc2, rfl⟩ := hr.bform
      obtain ⟨DA2, dc2, rfl⟩ := hr.dform
      obtain ⟨a, b2, hab, ha1, ha2, hk2, hl2⟩ := HL.out.1.1.2
      rw [hab, HL.out.1.1.1] at hr ⊢
      obtain ⟨g7, _, _, _, _, rfl, _, _, _, a0, _, _, _, a4, _, _, _, _⟩ := hr.blk_at (j := 0) (x := a) rfl
      obtain ⟨g8, _, _, _, _, hg8, _, _, _, c0, _, _, _, _, _, _, _, c8⟩ := hr.blk_at (j := 1) (x := b2) rfl
      obtain rfl : g7 = g8 := by
        injection hg8 with e
        injection e
      rw [ha1] at a0
      rw [ha2, ← HL.out.2] at a4
      rw [hk2] at c0
      rw [hl2, hxl] at c8
      simp only [List.length_cons, List.length_nil, Nat.one_mul, Nat.zero_mul, Nat.zero_add] at a0 a4 c0 c8 ⊢
      have HA := Lib.hid (And.intro a0 (And.intro a4 (And.intro c0 c8)))
      have hown7 : w7.ownsRow w1.heap.size 9 1 (.slice (some ⟨gt, 0, none⟩) (k + 1) tc) (k + 1) ((fenceB :: xs).map Value.string) := own_below H1.out.1 hbr7
      have H7 := Lib.hid hB7
      have CO := of_any (own_rd hown7) (Nat.le_refl _) (by simp; omega)
      clear hr hb7 hab ha1 ha2 hk2 hl2 hg8 a0 a4 c0 c8 hown7 hB7 hbr7
      go_wp2_with fail
      refine CO.mono ?_
      clear CO
      rintro e w8 ⟨lv8, rfl, ho8, hb8⟩
      have hB8 := H7.out.trans (hb8.mono H7.out.size)
      have CP := parsed_any (xs := fenceB :: xs) (HM.out.1.below hB8) (by
        simp only [wtT, List.map_cons, List.sum_cons, List.length_cons, e1]
        omega) ho8 hb8
      have H8 := Lib.hid (And.intro hB8 hb8)
      clear ho8 hb8 hB8
      go_wp2_with fail
      refine CP.mono ?_
      clear CP
      rintro e w9 ⟨⟨O, F1, rb, lv2, bv, dv, rfl, hr, _, _⟩, hb9⟩
      have hB9 := H8.out.1.trans (hb9.mono H8.out.1.size)
      have hb79 := H8.out.2.trans (hb9.mono H8.out.2.size)
      obtain ⟨BA3, bc3, rfl⟩ := hr.bform
      obtain ⟨DA3, dc3, rfl⟩ := hr.dform
      obtain ⟨a', hab, ha2, hd⟩ := HL.out.1.2
      rw [hab, hd] at hr ⊢
      obtain ⟨g9, _, _, _, _, rfl, _, _, _, _, _, _, _, r4, _, _, _, _⟩ := hr.blk_at (j := 0) (x := a') rfl
      obtain ⟨g10, rfl, _, d0, d1, d2, d3⟩ := hr.dg_at (j := 0) (x := ⟨⟨#[102]⟩, 1, 4, fenceB⟩) rfl
      rw [ha2, ← HL.out.2] at r4
      have hl7 := fun {b i : Nat} {v : Value} (h : w7.cell? ⟨b, i, none⟩ = some v) => (hb79.cell (p := ⟨b, i, none⟩) (World.block_lt_of_cell? _ _ h)).trans h
      have a0 := hl7 HA.out.1
      have a4 := hl7 HA.out.2.1
      have c0 := hl7 HA.out.2.2.1
      have c8 := hl7 HA.out.2.2.2
      unfold fenceB at d3
      simp only [List.length_cons, List.length_nil, Nat.one_mul, Nat.zero_mul, Nat.zero_add] at r4 d0 d1 d2 d3 ⊢
      have H9 := Lib.hid hB9
      clear hr hb9 hab ha2 hd hl7 hb79 hB9
      go_wp2
      go_ret
      exact ⟨ret_bool (by simp), H9.out⟩
end Go.Proofs.YtcjmfjccjhdgjaaGreatDoor
namespace Go.Proofs.YtcjmfjccjhdgjaaGreatDoor
open Go.ChangeShapes Go.WideShapes Go.RowKit Go.Bd
theorem str_cells : Tryz.prog.cellsOf 9 = 1 := by kernel_rfl
theorem str_bytes : Tryz.prog.bytesOf 9 = 16 := by kernel_rfl
theorem weights_all {H : Type} {P : Program} {e : TypeId} {n : Nat} {d : DataW H} : ∀ {ds : List (DataW H)}, d ∈ ds → n ∈ d.weights P e → n ∈ DataW.weightsAll P e ds
  | x :: ds, hd, hn => by
    rw [DataW.weightsAll]
    rcases List.mem_cons.1 hd with rfl | hd
    · exact List.mem_append_left _ hn
    · exact List.mem_append_right _ (weights_all hd hn)
theorem addr_lit {w : World} {a : Addr} {v : Value} (h : w.cell? (a.add 0) = some v) : ∃ b off, a = ⟨b, off, none⟩ ∧ b < w.heap.size := by
  obtain ⟨b, off, spot⟩ := a
  have e : (⟨b, off, spot⟩ : Addr).add 0 = ⟨b, off, spot⟩ := by simp [Addr.add]
  rw [e] at h
  refine ⟨b, off, ?_, World.block_lt_of_cell? w _ h⟩
  cases spot with
  | none => rfl
  | some s =>
    exfalso
    simp only [World.cell?] at h
    split at h <;> simp at h
section
variable {H : Type} {enc : TypeId × Value → H} {w : World} {sp : Nat → Bool} {held : Bool}
/-- a slice's cells, read asf one value each -/
theorem rd_of {a : Addr} {len cap : Nat} {V : Nat → Value} (hl : len ≤ cap) (h : ∀ i, i < len → w.cell? (a.add i) = some (V i)) : Rd w w.heap.size (.slice (some a) len cap) ((List.range len).map V) := by
  refine ⟨some a, cap, by simp, by simpa using hl, fun hn => ?_⟩
  have hn' : 0 < len := by simpa using hn
  obtain ⟨b, off, rfl, hb⟩ := addr_lit (h 0 hn')
  refine ⟨b, off, rfl, hb, fun j u hu => ?_⟩
  have hj : j < len := by have := (List.getElem?_eq_some_iff.1 hu).1; simpa using this
  rw [List.getElem?_map, List.getElem?_range hj] at hu
  have := h j hj
  rw [Addr.add_lit] at this
  rw [this]; exact hu
theorem open_texts {fuel : Nat} {cs : List Value} {x : DataW H × List MemPlace} (h : DataW.trod enc Tryz.prog w 0 sp held fuel 22 cs = some x) :
    ∃ (v : Value) (xs : List ByteArray), cs = [v] ∧ Rd w w.heap.size v (xs.map Value.string) ∧ ((∀ n ∈ x.1.weights Tryz.prog 22, n ≤ reachBytes) → xs.length ≤ 140737488355328 ∧ ∀ s ∈ xs, s.size ≤ 140737488355328) := by
  rcases Deep.open_slice1 (e := 9) Tryz.underlying22 str_cells h with ⟨rfl, rfl⟩ | ⟨a, len, cap, m, n, V, D, Pl, rfl, _, hl, _, hmm, rfl, hx⟩
  · exact ⟨_, [], rfl, Rd.nil _ _, fun _ => ⟨by decide, fun _ h => by cases h⟩⟩
  · have hlm : len ≤ m := by rw [hmm]; split <;> omega
    have each : ∀ i, i < len → ∃ s : ByteArray, V i = .string s ∧ D i = .lit (.string s.data.toList) := by
      intro i hi
      obtain ⟨s, h1, h2, _⟩ := DataW.trod_string Tryz.underlying9 (hx i (by omega)).2
      simp only [List.cons.injEq, and_true] at h1
      simp only [Prod.mk.injEq] at h2
      exact ⟨s, h1, h2.1⟩
    obtain ⟨S, hS⟩ := Deep.choose_lt each
    refine ⟨_, (List.range len).map S, rfl, ?_, fun hw => ⟨?_, fun s hs => ?_⟩⟩
    · have hr := rd_of (w := w) (V := fun i => .string (S i)) hl (fun i hi => by rw [(hx i (by omega)).1, (hS i hi).1])
      rw [List.map_map]
      exact hr
    · have := hw _ (by simp only [DataW.weights, Tryz.underlying22]; exact List.mem_cons_self ..)
      simp only [List.length_map, List.length_range, str_bytes] at this
      unfold reachBytes at this
      simp only [List.length_map, List.length_range]
      omega
    · obtain ⟨i, hi, rfl⟩ := List.mem_map.1 hs
      have hi' : i < len := by simpa using hi
      have := hw (S i).data.toList.length (by
        simp only [DataW.weights, Tryz.underlying22]
        refine List.mem_cons_of_mem _ (List.mem_append_left _ (weights_all (List.mem_map.2 ⟨i, hi, (hS i hi').2⟩) ?_))
        simp [DataW.weights])
      unfold reachBytes at this
      rw [size_list]; omega
end
set_option maxRecDepth 100000 in
theorem open_strs {H : Type} {enc : TypeId × Value → H} {W : World} {base : Nat} {sp : Nat → Bool} {hd : Bool} {v : Value} {d : DataW H} {p : List MemPlace}
    (hv : Value.okWide Tryz.prog W .any base 22 v) (h : DataW.Trod enc Tryz.prog W 0 sp hd 22 v d p) :
    ∃ xs : List ByteArray, Rd W W.heap.size v (xs.map Value.string) ∧ ((∀ n ∈ d.weights Tryz.prog 22, n ≤ reachBytes) → xs.length ≤ 140737488355328 ∧ ∀ s ∈ xs, s.size ≤ 140737488355328) := by
  obtain ⟨A, l, c, rfl⟩ := okWide_slice Tryz.underlying22 hv
  obtain ⟨fuel, hf⟩ := h
  obtain ⟨v, ls, h1, h2, h3⟩ := open_texts hf
  simp only [Value.cells, List.cons.injEq, and_true] at h1
  subst h1
  exact ⟨ls, h2, h3⟩
end Go.Proofs.YtcjmfjccjhdgjaaGreatDoor
namespace Go.Proofs.YtcjmfjccjhdgjaaGreatDoor.blocksCode
open Go.ChangeShapes Go.WideShapes Go.ChangeAt Go.RowKit Go.Bd Go.WideMaps Go.WideElems
open Go.ChangeMaps (open_string shut_string)
set_option maxRecDepth 100000 in
theorem contract (H : Type) (enc : TypeId × Value → H) (W : World) (base : Nat) (args : Array Value) (ds gs : List (DataW H)) (before : List MemPlace)
    (hval : ∀ (j : Nat) t v, Tryz.f5.params[j]? = some t → args[j]? = some v → Value.okWide Tryz.prog W .any base t v)
    (hW : DataW.Whole enc Tryz.prog Tryz.f5.params.toList Rows.blocksCodeSpec.vars false W args.toList ds gs before) (hsh : W.ShapedOpen Tryz.prog)
    (hsz : (DataW.weightsEach Tryz.prog (Tryz.f5.params.toList ++ (OpenSpec.ofChange Rows.blocksCodeSpec).bare.plain.varTypes Tryz.prog) (ds ++ gs)).all (· ≤ reachBytes) = true) (hU : Lib.Utf8Tabs 1 2 W) :
    Calls Tryz.prog 5 args W fun e W' => ∃ v, e = .returned v ∧ Rows.blocksCodeSpec.post enc Tryz.prog Tryz.f5 false true false false W args v W' := by
  obtain ⟨m, hm⟩ := maxLen_cell W hsh
  have hW' := hW
  obtain ⟨p, q, hA0, hV, rfl, hfz, hnd⟩ := hW
  have hA : DataW.TrodAll enc Tryz.prog W 0 (fun _ => true) true Tryz.f5.params.toList args.toList ds p := hA0
  rw [Tryz.params5] at hA hval hsz
  obtain ⟨v0, vs0, d0, ds0, p0, q0, hargs, rfl, rfl, h0, r0⟩ := trodAll_cons hA
  obtain ⟨rfl, rfl, rfl⟩ := trodAll_nil r0
  obtain rfl : args = #[v0] := by cases args; simp_all
  obtain ⟨rfl, rfl⟩ := trodVars_none hV
  obtain ⟨xs0, hR0, bs0⟩ := open_strs (hval 0 22 v0 rfl rfl) h0
  have b0 := bs0 (fun n hn => by have := List.all_eq_true.1 hsz n (DataW.weights_mem_each (j := 0) rfl rfl n hn); simpa using this)
  refine (blocksCode_true v0 xs0 m W ⟨hm, hU⟩ hR0 b0).mono fun e W' ⟨he, hg⟩ => ?_
  subst he
  exact law_post hW' hg laidOut (by rw [Tryz.params5]; intro t ht; simp at ht; subst ht; exact ⟨by kernel_rfl, of_decide_eq_true (by kernel_rfl)⟩) rfl rfl (by kernel_rfl) Tryz.underlying4
theorem laid_met (os : Os) : laidMet Tryz.prog Rows.blocksCodeRow.laid ((laidWorld os).forCall (fun _ _ => 0) ⟨#[], #[.slice none 0 0], []⟩).memory :=
  laidMet_of_run' 8 (by kernel_rfl) (by kernel_rfl)
theorem reads (os : Os) {H : Type} (enc : TypeId × Value → H) : ∃ places, DataW.whole enc Tryz.prog ((laidWorld os).forCall (fun _ _ => 0) ⟨#[], #[.slice none 0 0], []⟩).memory Tryz.f5.params.toList Rows.blocksCodeSpec.vars false (#[.slice none 0 0] : Array Value).toList 8 = some ([.nil], [], places) :=
  ⟨[], by kernel_rfl⟩
set_option maxRecDepth 100000 in
theorem lifted (os : Os) (started : os.Started) (H : Type) (enc : TypeId × Value → H) (F : Stop.Interp) :
    ReturnsInHanded {} Tryz.checked os 5 .any ((OpenSpec.ofChange Rows.blocksCodeSpec).preRow enc Tryz.prog Tryz.f5 Rows.blocksCodeRow.domain false Rows.blocksCodeRow.laid) (((OpenSpec.ofChange Rows.blocksCodeSpec).at F).post enc Tryz.prog Tryz.f5 false true false false) := by
  obtain ⟨places, hx⟩ := reads os enc
  refine returnsInHanded_of_row (C := Tryz.checked) (s := OpenSpec.ofChange Rows.blocksCodeSpec) own started (by kernel_rfl) Tryz.func5
    (witness_row_at (enc := enc) (C := Tryz.checked) false (laidWorld os) #[.slice none 0 0] rfl (by kernel_rfl) (by kernel_rfl) (by kernel_rfl)
      (OpenSpec.preRow_of_cond 8 hx (by kernel_rfl) (fun k hk => by cases hk) (by kernel_rfl) (laid_met os))) ?_
  intro W base args ds gs before hval hW _ _ hsz hL hsh _
  have hL' : laidMet Tryz.prog Rows.blocksCodeRow.laid W := hL
  exact contract H enc W base args ds gs before hval hW hsh hsz (tabs_of hL')
theorem said : Rows.BlocksCodeSaid :=
  OpenClaim.holds_of_cond 5 Tryz.f5 rfl rfl rfl rfl rfl rfl rfl ⟨rfl, rfl, rfl, rfl, rfl⟩ rfl rfl rfl rfl rfl (by kernel_rfl) Tryz.func5 (by kernel_rfl)
    (of_decide_eq_true (by kernel_rfl)) (by unfold Func.isWrapper; first | (rw [if_pos (by decide +kernel)]; kernel_rfl) | (rw [if_neg (by decide +kernel)]; exact ⟨rfl, rfl⟩))
    (fun os started H enc _ F => by rw [OpenClaim.pre_eq_preRow]; exact lifted os started H enc F)
theorem plain (f : FuncId) (fn : Func) (hf : Tryz.pinned.checked.prog.funcNamed Tryz.f5.name = some f) (hfn : Tryz.pinned.checked.prog.funcs[f]? = some fn) :
    false = Tryz.pinned.checked.prog.looks [] ∧ ∀ (j : Nat) t, fn.params[j]? = some t → Tryz.pinned.checked.prog.wantsStandIn t = false := by
  obtain rfl : f = 5 := Option.some.inj ((show Tryz.prog.funcNamed Tryz.f5.name = some 5 by kernel_rfl).symm.trans hf) |>.symm
  obtain rfl : fn = Tryz.f5 := (Option.some.inj (Tryz.func5.symm.trans hfn)).symm
  refine ⟨by kernel_rfl, fun j t ht => ?_⟩
  rw [Tryz.params5] at ht
  obtain rfl : t = 22 := by simpa using Array.mem_of_getElem? ht
  exact (show Tryz.prog.wantsStandIn 22 = false by kernel_rfl)
theorem card : Rows.BlocksCodeCardSaid :=
  Claim7.holds_tied_plain_at .later [] _ _ _ _ said (fun _ h => by cases h) (by kernel_rfl) (fun _ h => by cases h) blocksCode_row_tie rfl ⟨rfl, rfl⟩ (by kernel_rfl) rfl plain (by kernel_rfl)
end Go.Proofs.YtcjmfjccjhdgjaaGreatDoor.blocksCode
