/-
  The law BlocksEmpty: for every input it answers true, and the input reads as it did: the row, and its card. Its conditions: those of the given row alone.
-/
import Derived.Deep.Slices
import Derived.ChangeArms
import Derived.WideShapes
import Derived.SizedLaws
import Derived.Test.YtcjmfjccjhdgjaaGreatDoorK7
set_option linter.unusedSimpArgs false
set_option linter.unusedVariables false
namespace Go.Bd
open Go.RowKit
/-- a line of blanks, out of a byte -/
def eTx (x : Int) : ByteArray := if x % 4 = 0 then ⟨#[]⟩ else if x % 4 = 1 then ⟨#[32]⟩ else if x % 4 = 2 then ⟨#[9]⟩ else ⟨#[32, 9, 32]⟩
theorem eTx_trim (x : Int) : trim (eTx x).data.toList = [] := by
  unfold eTx
  repeat' split
  all_goals decide
theorem eTx_size (x : Int) : (eTx x).size ≤ 3 := by
  unfold eTx
  repeat' split
  all_goals decide
theorem sum_le_mul : ∀ {l : List ByteArray} {k : Nat}, (∀ s ∈ l, s.size ≤ k) → (l.map (·.size)).sum ≤ l.length * k
  | [], k, _ => by simp
  | x :: l, k, h => by
    have h1 := sum_le_mul (l := l) (k := k) (fun s hs => h s (List.mem_cons_of_mem _ hs))
    have h2 := h x (List.mem_cons_self ..)
    rw [List.map_cons, List.sum_cons, List.length_cons, Nat.succ_mul]
    omega
end Go.Bd
namespace Go.Proofs.YtcjmfjccjhdgjaaGreatDoor
open Go.RowKit Go.Bd
theorem tr_data (s : ByteArray) : (tr s).data.toList = trim s.data.toList := by simp [tr]
theorem readR_nil (f : ByteArray) (no : Int) {s : ByteArray} (rest : List Ln) (h : s.data.toList = []) : readR f no s rest = (0, [], []) := by
  unfold readR
  rw [h, if_neg (by decide), if_neg (by decide), if_pos rfl]
theorem step_blank {x : Ln} (rest : List Ln) (h : trim x.text.data.toList = []) : stepR x rest = (0, [], []) := by
  unfold stepR
  rw [h]
  have e : commandB [] = none := by decide
  rw [e]
  exact readR_nil _ _ _ (by rw [tr_data, h])
theorem blank_blocks : ∀ {l : List ByteArray} (n : Nat) (t : List Ln), (∀ s ∈ l, trim s.data.toList = []) → blocksOf (lnsFrom n l ++ t) = blocksOf t ∧ diagsOf (lnsFrom n l ++ t) = diagsOf t
  | [], n, t, _ => ⟨rfl, rfl⟩
  | x :: l, n, t, h => by
    have ih := blank_blocks (l := l) (n + 1) t (fun s hs => h s (List.mem_cons_of_mem _ hs))
    rw [lnsFrom, List.cons_append, blocksOf_cons, diagsOf_cons, step_blank _ (h x (List.mem_cons_self ..))]
    exact ⟨by simpa using ih.1, by simpa using ih.2⟩
def ex1 : Ln := ⟨⟨#[102]⟩, 1, ⟨#[61, 32, 120]⟩⟩
theorem cmd_ex : commandB (trim [61, 32, 120]) = none := by decide
theorem cmd_ey : commandB (trim [121]) = none := by decide
theorem read_ex : 0 < (leadB [61, 32, 120] 61).1 := by decide
theorem step_ex (rest : List Ln) : (stepR ex1 rest).1 = 0 ∧ (stepR ex1 rest).2.1.length = 1 ∧ (stepR ex1 rest).2.2 = [] := by
  have e : stepR ex1 rest = headR ⟨#[102]⟩ 1 ⟨#[61, 32, 120]⟩ := by
    unfold stepR ex1
    simp only
    rw [show trim (⟨#[61, 32, 120]⟩ : ByteArray).data.toList = trim [61, 32, 120] from rfl, cmd_ex]
    simp only
    rw [show tr ⟨#[61, 32, 120]⟩ = ⟨#[61, 32, 120]⟩ by decide]
    unfold readR
    rw [if_pos (show 0 < (leadB (⟨#[61, 32, 120]⟩ : ByteArray).data.toList 61).1 from read_ex)]
  rw [e]
  exact ⟨rfl, rfl, List.length_eq_zero_iff.1 (by decide +kernel)⟩
theorem step_ey (no : Int) : stepR ⟨⟨#[102]⟩, no, ⟨#[121]⟩⟩ [] = paraR ⟨#[102]⟩ no ⟨#[121]⟩ [] := by
  unfold stepR
  simp only
  rw [show trim (⟨#[121]⟩ : ByteArray).data.toList = trim [121] from rfl, cmd_ey]
  simp only
  rw [show tr ⟨#[121]⟩ = ⟨#[121]⟩ by decide]
  unfold readR
  rw [if_neg (by decide), if_neg (by decide), if_neg (by decide), if_neg (by decide), if_neg (by decide)]
theorem empty_law (l : List ByteArray) (h : ∀ s ∈ l, trim s.data.toList = []) : blocksOf (linesOf l) = [] ∧ diagsOf (linesOf l) = [] ∧ diagsOf (linesOf (⟨#[61, 32, 120]⟩ :: l ++ [⟨#[121]⟩])) = [] ∧ ∃ a b, blocksOf (linesOf (⟨#[61, 32, 120]⟩ :: l ++ [⟨#[121]⟩])) = [a, b] ∧ b.kind = 2 ∧ b.line = (l.length : Int) + 2 := by
  have h1 := blank_blocks 1 [] h
  rw [List.append_nil] at h1
  have h2 := blank_blocks 2 (lnsFrom (2 + l.length) [⟨#[121]⟩]) h
  have e : linesOf (⟨#[61, 32, 120]⟩ :: l ++ [⟨#[121]⟩]) = ex1 :: (lnsFrom 2 l ++ lnsFrom (2 + l.length) [⟨#[121]⟩]) := by
    unfold linesOf
    rw [List.cons_append, lnsFrom, lnsFrom_append]
    rfl
  obtain ⟨k1, k2, k3⟩ := step_ex (lnsFrom 2 l ++ lnsFrom (2 + l.length) [⟨#[121]⟩])
  obtain ⟨a, ha⟩ := List.length_eq_one_iff.1 k2
  have hy : lnsFrom (2 + l.length) [⟨#[121]⟩] = [⟨⟨#[102]⟩, ((2 + l.length : Nat) : Int), ⟨#[121]⟩⟩] := rfl
  have b1 : blocksOf (lnsFrom (2 + l.length) [⟨#[121]⟩]) = (paraR ⟨#[102]⟩ ((2 + l.length : Nat) : Int) ⟨#[121]⟩ []).2.1 := by
    rw [hy, blocksOf_cons, step_ey, List.drop_nil, blocksOf_nil, List.append_nil]
  have d1 : diagsOf (lnsFrom (2 + l.length) [⟨#[121]⟩]) = (paraR ⟨#[102]⟩ ((2 + l.length : Nat) : Int) ⟨#[121]⟩ []).2.2 := by
    rw [hy, diagsOf_cons, step_ey, List.drop_nil, diagsOf_nil, List.append_nil]
  refine ⟨h1.1, h1.2, ?_, ?_⟩
  · rw [e, diagsOf_cons, k1, k3, List.drop_zero, List.nil_append, h2.2, d1]
    have : faultsOf (paraB [] 0 ⟨#[121]⟩) = [] := by decide +kernel
    simp only [paraR, this, List.map_nil]
  · rw [e, blocksOf_cons, k1, ha, List.drop_zero, h2.1, b1]
    exact ⟨a, _, rfl, rfl, by simp; omega⟩
set_option maxRecDepth 100000 in
set_option maxHeartbeats 8000000 in
theorem blocksEmpty_true (v : Value) (xs : List Int) (m : Int) (w : World) (hm : Glob m w) (hR : Rd w w.heap.size v (xs.map (Value.int .u8))) (hwf : ∀ x ∈ xs, (Lit.int .u8 x).wf = true) (hl : xs.length ≤ 140737488355328) :
    Calls Tryz.prog 6 #[v] w fun e w' => e = .returned (.bool true) ∧ Below w.heap.size w w' := by
  obtain ⟨A, c, rfl, hcl, f⟩ := hR.form
  rw [List.length_map] at hcl ⊢
  have F : Hid (∀ (j : Nat) x, xs[j]? = some x → ∃ b off, A = some ⟨b, off, none⟩ ∧ b < w.heap.size ∧ w.cell? ⟨b, off + j, none⟩ = some (.int .u8 x)) := fun j x hj => by
    obtain ⟨b, off, h1, h2, h3⟩ := f j (.int .u8 x) (by rw [List.getElem?_map, hj]; rfl)
    exact ⟨b, off, h1, by omega, h3⟩
  have HW : Hid (∀ x ∈ xs, 0 ≤ x ∧ x ≤ 255) := fun x hx => by
    obtain ⟨h1, h2⟩ := bounds_u8 (hwf x hx)
    exact ⟨h1, by omega⟩
  clear hR f hwf
  obtain ⟨n, hn⟩ : ∃ n, xs.length = n := ⟨_, rfl⟩
  rw [hn] at hl hcl ⊢
  have CA := alive_any hm
  have HM := Lib.hid hm
  have HN := Lib.hid hn
  clear hm hn
  go_enter Tryz.func6, Tryz.ntmps6
  go_wp2_with fail
  refine CA.mono ?_
  clear CA
  rintro e w1 ⟨rfl, hb1⟩
  by_cases hbig : 300 < n
  · have hbi : decide (300 < (n : Int)) = true := by simp; omega
    have CA := alive_any (HM.out.below hb1)
    have HB1 := Lib.hid hb1
    clear hb1
    go_wp2_with fail
    refine CA.mono ?_
    rintro e w2 ⟨rfl, hb2⟩
    go_wp2
    go_ret
    exact ⟨rfl, HB1.out.trans (hb2.mono HB1.out.size)⟩
  · have hbi : decide (300 < (n : Int)) = false := by simp; omega
    have hs1 := hb1.size
    have HB1 := Lib.hid hb1
    clear hb1
    go_wp2
    go_loopg [3, 4] n (fun q vt vi wr => ∃ k : Nat, k + q = n ∧ vi = .int .i64 (k : Int) ∧ Hid (wr.ownsRow w1.heap.size 9 1 vt k (((xs.take k).map eTx).map Value.string) ∧ Below w1.heap.size w1 wr ∧ (k = 0 → vt = .slice none 0 0)))
    case atStart => exact ⟨0, by omega, rfl, World.ownsRow_nil _ _ _ _, Below.refl _ _, fun _ => rfl⟩
    case round =>
      obtain ⟨k, hk, rfl, HK⟩ := hrel
      obtain ⟨TA, tc, rfl, _⟩ := owns_form HK.out.1
      by_cases hlt : k < n
      · obtain ⟨x, hx⟩ : ∃ x, xs[k]? = some x := ⟨_, List.getElem?_eq_getElem (by have := HN.out; omega)⟩
        obtain ⟨hx0, hx1⟩ := HW.out x (List.mem_of_getElem? hx)
        obtain ⟨b, off, rfl, hb, hc0⟩ := F.out k x hx
        replace hc0 := ((HB1.out.trans (HK.out.2.1.mono hs1)).cell (p := ⟨b, off + k, none⟩) hb).trans hc0
        have hbr : b < wr.heap.size := by have := HK.out.2.1.size; omega
        have htk : ((xs.take (k + 1)).map eTx).map Value.string = ((xs.take k).map eTx).map Value.string ++ [.string (eTx x)] := by rw [List.take_add_one, hx]; simp
        have HTK := Lib.hid htk
        have hws := HK.out.2.1.size
        have hq : x % 4 = 0 ∨ x % 4 = 1 ∨ x % 4 = 2 ∨ x % 4 = 3 := by omega
        clear htk hx
        rcases hq with hq | hq | hq | hq
        · have he : eTx x = ⟨#[]⟩ := by unfold eTx; simp [hq]
          have HE := Lib.hid he
          clear he
          go_wp2_with (at_builtin; refine wpList_app1 _ rfl _ _ 22 rfl w1.heap.size 9 (.string ⟨#[]⟩) 16 Tryz.underlying22 strs_info rfl _ k _ rfl ((HK.out.1.alloc _).alloc _) _ 1 (.string ⟨#[]⟩) rfl (by simp) rfl (by unfold maxLen; omega) (by omega) (by simp; omega) ?_)
          intro v3 w3 hown3 hgr3
          have hb3 : Below w1.heap.size w1 w3 := ((HK.out.2.1.alloc hws _).alloc (by simp; omega) _).grown hgr3 (by simp; omega) (fun q hq => by obtain ⟨_, _, _, hb⟩ := owns_form HK.out.1; exact (hb q hq).1)
          have H3 : Hid (w3.ownsRow w1.heap.size 9 1 v3 (k + 1) (((xs.take (k + 1)).map eTx).map Value.string) ∧ Below w1.heap.size w1 w3) := Lib.hid ⟨by rw [HTK.out, HE.out, List.map_map, List.map_take]; exact hown3, hb3⟩
          clear hown3 hgr3 hb3 hc0
          go_wp2
          go_roundg (gk - 1)
          case measure => omega
          case rel => exact ⟨k + 1, by omega, by go_num, H3.out.1, H3.out.2, fun e => absurd e (by omega)⟩
        · have he : eTx x = ⟨#[32]⟩ := by unfold eTx; simp [hq]
          have HE := Lib.hid he
          clear he
          go_wp2_with (at_builtin; refine wpList_app1 _ rfl _ _ 22 rfl w1.heap.size 9 (.string ⟨#[]⟩) 16 Tryz.underlying22 strs_info rfl _ k _ rfl ((HK.out.1.alloc _).alloc _) _ 1 (.string ⟨#[32]⟩) rfl (by simp) rfl (by unfold maxLen; omega) (by omega) (by simp; omega) ?_)
          intro v3 w3 hown3 hgr3
          have hb3 : Below w1.heap.size w1 w3 := ((HK.out.2.1.alloc hws _).alloc (by simp; omega) _).grown hgr3 (by simp; omega) (fun q hq => by obtain ⟨_, _, _, hb⟩ := owns_form HK.out.1; exact (hb q hq).1)
          have H3 : Hid (w3.ownsRow w1.heap.size 9 1 v3 (k + 1) (((xs.take (k + 1)).map eTx).map Value.string) ∧ Below w1.heap.size w1 w3) := Lib.hid ⟨by rw [HTK.out, HE.out, List.map_map, List.map_take]; exact hown3, hb3⟩
          clear hown3 hgr3 hb3 hc0
          go_wp2
          go_roundg (gk - 1)
          case measure => omega
          case rel => exact ⟨k + 1, by omega, by go_num, H3.out.1, H3.out.2, fun e => absurd e (by omega)⟩
        · have he : eTx x = ⟨#[9]⟩ := by unfold eTx; simp [hq]
          have HE := Lib.hid he
          clear he
          go_wp2_with (at_builtin; refine wpList_app1 _ rfl _ _ 22 rfl w1.heap.size 9 (.string ⟨#[]⟩) 16 Tryz.underlying22 strs_info rfl _ k _ rfl ((HK.out.1.alloc _).alloc _) _ 1 (.string ⟨#[9]⟩) rfl (by simp) rfl (by unfold maxLen; omega) (by omega) (by simp; omega) ?_)
          intro v3 w3 hown3 hgr3
          have hb3 : Below w1.heap.size w1 w3 := ((HK.out.2.1.alloc hws _).alloc (by simp; omega) _).grown hgr3 (by simp; omega) (fun q hq => by obtain ⟨_, _, _, hb⟩ := owns_form HK.out.1; exact (hb q hq).1)
          have H3 : Hid (w3.ownsRow w1.heap.size 9 1 v3 (k + 1) (((xs.take (k + 1)).map eTx).map Value.string) ∧ Below w1.heap.size w1 w3) := Lib.hid ⟨by rw [HTK.out, HE.out, List.map_map, List.map_take]; exact hown3, hb3⟩
          clear hown3 hgr3 hb3 hc0
          go_wp2
          go_roundg (gk - 1)
          case measure => omega
          case rel => exact ⟨k + 1, by omega, by go_num, H3.out.1, H3.out.2, fun e => absurd e (by omega)⟩
        · have he : eTx x = ⟨#[32, 9, 32]⟩ := by unfold eTx; simp [hq]
          have HE := Lib.hid he
          clear he
          go_wp2_with (at_builtin; refine wpList_app1 _ rfl _ _ 22 rfl w1.heap.size 9 (.string ⟨#[]⟩) 16 Tryz.underlying22 strs_info rfl _ k _ rfl ((HK.out.1.alloc _).alloc _) _ 1 (.string ⟨#[32, 9, 32]⟩) rfl (by simp) rfl (by unfold maxLen; omega) (by omega) (by simp; omega) ?_)
          intro v3 w3 hown3 hgr3
          have hb3 : Below w1.heap.size w1 w3 := ((HK.out.2.1.alloc hws _).alloc (by simp; omega) _).grown hgr3 (by simp; omega) (fun q hq => by obtain ⟨_, _, _, hb⟩ := owns_form HK.out.1; exact (hb q hq).1)
          have H3 : Hid (w3.ownsRow w1.heap.size 9 1 v3 (k + 1) (((xs.take (k + 1)).map eTx).map Value.string) ∧ Below w1.heap.size w1 w3) := Lib.hid ⟨by rw [HTK.out, HE.out, List.map_map, List.map_take]; exact hown3, hb3⟩
          clear hown3 hgr3 hb3 hc0
          go_wp2
          go_roundg (gk - 1)
          case measure => omega
          case rel => exact ⟨k + 1, by omega, by go_num, H3.out.1, H3.out.2, fun e => absurd e (by omega)⟩
      · obtain rfl : k = n := by omega
        obtain ⟨ts, hts⟩ : ∃ ts, xs.map eTx = ts := ⟨_, rfl⟩
        have htl : ts.length = k := by rw [← hts, List.length_map]; exact HN.out
        have H := HK.out
        rw [List.take_of_length_le (by have := HN.out; omega), hts] at H
        have hLAW := empty_law ts (fun s hs => by
          rw [← hts] at hs
          obtain ⟨x, _, rfl⟩ := List.mem_map.1 hs
          exact eTx_trim x)
        have hsz : (ts.map (·.size)).sum ≤ 900 := by
          have := sum_le_mul (l := ts) (k := 3) (fun s hs => by
            rw [← hts] at hs
            obtain ⟨x, _, rfl⟩ := List.mem_map.1 hs
            exact eTx_size x)
          omega
        have HL := Lib.hid hLAW
        have hbw := HB1.out.trans (H.2.1.mono hs1)
        have hR1 : Rd wr wr.heap.size (.slice TA k tc) (ts.map Value.string) := own_rd H.1
        have CO := of_any hR1 (Nat.le_refl _) (by omega)
        have H1 := Lib.hid (And.intro H.1 hbw)
        have HK0 := Lib.hid H.2.2
        clear hts hLAW H hbw hR1
        go_wp2_with fail
        refine CO.mono ?_
        clear CO
        rintro e w2 ⟨lv, rfl, ho, hb2⟩
        have hB2 := H1.out.2.trans (hb2.mono H1.out.2.size)
        have CP := parsed_any (xs := ts) (HM.out.below hB2) (by unfold wtT; omega) ho hb2
        have H2 := Lib.hid (And.intro hb2 hB2)
        clear ho hb2 hB2
        go_wp2_with fail
        refine CP.mono ?_
        clear CP
        rintro e w3 ⟨⟨O, F1, rb, lv2, bv, dv, rfl, hr, _, _⟩, hb3⟩
        have hb13 := H2.out.1.trans (hb3.mono H2.out.1.size)
        have hB3 := H2.out.2.trans (hb3.mono H2.out.2.size)
        obtain ⟨BA, bc, rfl⟩ := hr.bform
        obtain ⟨DA, dc, rfl⟩ := hr.dform
        rw [HL.out.1, HL.out.2.1]
        have hown3 := own_below H1.out.1 hb13
        have hk00 := HK0.out
        have H3 := Lib.hid (And.intro hB3 (And.intro hown3 hk00))
        have hkn : k ≤ 300 := by omega
        clear hr hb3 hb13 hB3 hown3 hk00
        simp only [List.length_nil]
        have hlit := own_lit w3 9 [.string ⟨#[61, 32, 120]⟩] (by show (1 : Nat) ≤ maxLen; unfold maxLen; omega)
        have hown4 : (w3.alloc (.cells #[.string ⟨#[61, 32, 120]⟩] 9)).ownsRow w1.heap.size 9 1 (.slice TA k tc) k (ts.map Value.string) := H3.out.2.1.alloc _
        have HLI := Lib.hid (And.intro hlit hown4)
        clear hlit hown4
        by_cases hk0 : k = 0
        · obtain ⟨rfl, rfl⟩ : TA = none ∧ tc = 0 := by
            have := H3.out.2.2 hk0
            injection this with e1 e2 e3
            exact ⟨e1, e3⟩
          have hts0 : ts = [] := List.length_eq_zero_iff.1 (by omega)
          have HT0 := Lib.hid hts0
          subst hk0
          clear hts0
          obtain ⟨i0, hi0, hz0, hz1, hz2⟩ := info_parts strs_info
          have hown4 : (w3.alloc (.cells #[.string ⟨#[61, 32, 120]⟩] 9)).ownsRow w3.heap.size 9 1 (.slice (some ⟨w3.heap.size, 0, none⟩) 1 1) 1 ((⟨#[61, 32, 120]⟩ :: ts).map Value.string) := by rw [HT0.out]; exact HLI.out.1
          have hb4 : Below w3.heap.size w3 (w3.alloc (.cells #[.string ⟨#[61, 32, 120]⟩] 9)) := (Below.refl _ _).alloc (Nat.le_refl _) _
          have hs4 := hb4.size
          have H4 := Lib.hid (And.intro hown4 hb4)
          clear hown4 hb4
          go_wp2_with (first | (at_builtin; refine wpList_append_own_none (by rfl) _ _ _ (by rfl) w3.heap.size 9 i0 1 Tryz.underlying22 hi0 (.slice (some ⟨w3.heap.size, 0, none⟩) 1 1) 1 [.string ⟨#[61, 32, 120]⟩] (by rfl) HLI.out.1 (by rfl) ?_) | (at_builtin; refine wpList_app1 _ rfl _ _ 22 rfl w3.heap.size 9 (.string ⟨#[]⟩) 16 Tryz.underlying22 strs_info rfl _ 1 _ rfl (H4.out.1.alloc _) _ 1 (.string ⟨#[121]⟩) rfl (by simp) rfl (by unfold maxLen; omega) (by omega) (by simp; try omega) ?_))
          intro v5 w5 hown5 hgr5
          have hb5 : Below w3.heap.size w3 w5 := (H4.out.2.alloc hs4 _).grown hgr5 (by simp; try omega) (fun q hq => by obtain ⟨_, _, _, hb⟩ := owns_form H4.out.1; exact (hb q hq).1)
          have hR5 : Rd w5 w5.heap.size v5 (((⟨#[61, 32, 120]⟩ : ByteArray) :: ts ++ [(⟨#[121]⟩ : ByteArray)]).map Value.string) := by have e := own_rd hown5; simpa using e
          have hB5 := H3.out.1.trans (hb5.mono H3.out.1.size)
          have CO := of_any hR5 (Nat.le_refl _) (by simp; omega)
          have H5 := Lib.hid hB5
          clear hown5 hgr5 hb5 hR5 hB5
          go_wp2_with fail
          refine CO.mono ?_
          clear CO
          rintro e w6 ⟨lv6, rfl, ho6, hb6⟩
          have hB6 := H5.out.trans (hb6.mono H5.out.size)
          have CP := parsed_any (xs := ⟨#[61, 32, 120]⟩ :: ts ++ [⟨#[121]⟩]) (HM.out.below hB6) (by
            have e1 : (⟨#[61, 32, 120]⟩ : ByteArray).size = 3 := rfl
            have e2 : (⟨#[121]⟩ : ByteArray).size = 1 := rfl
            simp only [wtT, List.cons_append, List.map_cons, List.map_append, List.map_nil, List.sum_cons, List.sum_append, List.sum_nil, List.length_cons, List.length_append, List.length_nil, e1, e2]
            omega) ho6 hb6
          have H6 := Lib.hid hB6
          clear ho6 hb6 hB6
          go_wp2_with fail
          refine CP.mono ?_
          clear CP
          rintro e w7 ⟨⟨O, F1, rb, lv2, bv, dv, rfl, hr, _, _⟩, hb7⟩
          have H7 := Lib.hid (H6.out.trans (hb7.mono H6.out.size))
          obtain ⟨BA2, bc2, rfl⟩ := hr.bform
          obtain ⟨DA2, dc2, rfl⟩ := hr.dform
          obtain ⟨a, b2, hab, hk2, hl2⟩ := HL.out.2.2.2
          rw [hab, HL.out.2.2.1] at hr ⊢
          obtain ⟨g7, _, _, _, _, rfl, _, _, _, c0, _, _, _, _, _, _, _, c8⟩ := hr.blk_at (j := 1) (x := b2) rfl
          rw [hk2] at c0
          rw [hl2, htl] at c8
          simp only [List.length_cons, List.length_nil, Nat.one_mul] at c0 c8 ⊢
          clear hr hb7 hab hk2 hl2
          go_wp2
          go_ret
          exact ⟨ret_bool (by simp), H7.out⟩
        · obtain ⟨gt, tcap, htv, _⟩ := own_some H3.out.2.1 (by omega)
          have htv2 : TA = some ⟨gt, 0, none⟩ := by injection htv
          subst htv2
          clear htv
          obtain ⟨i0, hi0, hz0, hz1, hz2⟩ := info_parts strs_info
          go_wp2_with (at_builtin; refine wpList_append_lies _ (by rfl) _ _ _ (by rfl) w3.heap.size 9 i0 _ 1 16 Tryz.underlying22 hi0 hz0 hz1 hz2 rfl (by omega) (.slice (some ⟨w3.heap.size, 0, none⟩) 1 1) 1 [.string ⟨#[61, 32, 120]⟩] (by rfl) HLI.out.1 ⟨gt, 0, none⟩ k tc (ts.map Value.string) (by rfl) (by rw [List.length_map]; omega) (fun j u hu => HLI.out.2.cells (g := gt) rfl j u hu) (fun u hu => by obtain ⟨_, _, rfl⟩ := List.mem_map.1 hu; rfl) (by omega) (by unfold maxLen; omega) (by omega) (by simp) (w3.heap.size + 1) (by simp) ?_)
          intro g4 cap4 W4 hown4' hg4 hat4 _
          have hown4 : W4.ownsRow w3.heap.size 9 1 (.slice (some ⟨g4, 0, none⟩) (1 + k) cap4) (1 + k) ((⟨#[61, 32, 120]⟩ :: ts).map Value.string) := hown4'
          have hb4 : Below w3.heap.size w3 W4 := ((Below.refl _ _).alloc (Nat.le_refl _) _).grown hg4 (by simp) (fun q hq => by
            have e : w3.heap.size = q := by simpa [Value.ownBlock] using hq
            omega)
          clear hown4' hg4 hat4
          have hs4 := hb4.size
          have H4 := Lib.hid (And.intro hown4 hb4)
          clear hown4 hb4 hi0 hz0 hz1 hz2
          go_wp2_with (at_builtin; refine wpList_app1 _ rfl _ _ 22 rfl w3.heap.size 9 (.string ⟨#[]⟩) 16 Tryz.underlying22 strs_info rfl _ (1 + k) _ rfl (H4.out.1.alloc _) _ 1 (.string ⟨#[121]⟩) rfl (by simp) rfl (by unfold maxLen; omega) (by omega) (by simp; try omega) ?_)
          intro v5 w5 hown5 hgr5
          have hb5 : Below w3.heap.size w3 w5 := (H4.out.2.alloc hs4 _).grown hgr5 (by simp; try omega) (fun q hq => by obtain ⟨_, _, _, hb⟩ := owns_form H4.out.1; exact (hb q hq).1)
          have hR5 : Rd w5 w5.heap.size v5 (((⟨#[61, 32, 120]⟩ : ByteArray) :: ts ++ [(⟨#[121]⟩ : ByteArray)]).map Value.string) := by have e := own_rd hown5; simpa using e
          have hB5 := H3.out.1.trans (hb5.mono H3.out.1.size)
          have CO := of_any hR5 (Nat.le_refl _) (by simp; omega)
          have H5 := Lib.hid hB5
          clear hown5 hgr5 hb5 hR5 hB5
          go_wp2_with fail
          refine CO.mono ?_
          clear CO
          rintro e w6 ⟨lv6, rfl, ho6, hb6⟩
          have hB6 := H5.out.trans (hb6.mono H5.out.size)
          have CP := parsed_any (xs := ⟨#[61, 32, 120]⟩ :: ts ++ [⟨#[121]⟩]) (HM.out.below hB6) (by
            have e1 : (⟨#[61, 32, 120]⟩ : ByteArray).size = 3 := rfl
            have e2 : (⟨#[121]⟩ : ByteArray).size = 1 := rfl
            simp only [wtT, List.cons_append, List.map_cons, List.map_append, List.map_nil, List.sum_cons, List.sum_append, List.sum_nil, List.length_cons, List.length_append, List.length_nil, e1, e2]
            omega) ho6 hb6
          have H6 := Lib.hid hB6
          clear ho6 hb6 hB6
          go_wp2_with fail
          refine CP.mono ?_
          clear CP
          rintro e w7 ⟨⟨O, F1, rb, lv2, bv, dv, rfl, hr, _, _⟩, hb7⟩
          have H7 := Lib.hid (H6.out.trans (hb7.mono H6.out.size))
          obtain ⟨BA2, bc2, rfl⟩ := hr.bform
          obtain ⟨DA2, dc2, rfl⟩ := hr.dform
          obtain ⟨a, b2, hab, hk2, hl2⟩ := HL.out.2.2.2
          rw [hab, HL.out.2.2.1] at hr ⊢
          obtain ⟨g7, _, _, _, _, rfl, _, _, _, c0, _, _, _, _, _, _, _, c8⟩ := hr.blk_at (j := 1) (x := b2) rfl
          rw [hk2] at c0
          rw [hl2, htl] at c8
          simp only [List.length_cons, List.length_nil, Nat.one_mul] at c0 c8 ⊢
          clear hr hb7 hab hk2 hl2
          go_wp2
          go_ret
          exact ⟨ret_bool (by simp), H7.out⟩
end Go.Proofs.YtcjmfjccjhdgjaaGreatDoor
namespace Go.Bd
open Go.ChangeShapes Go.WideShapes Go.RowKit
theorem addr_lit' {w : World} {a : Addr} {v : Value} (h : w.cell? (a.add 0) = some v) : ∃ b off, a = ⟨b, off, none⟩ ∧ b < w.heap.size := by
  obtain ⟨b, off, spot⟩ := a
  have e : (⟨b, off, spot⟩ : Addr).add 0 = ⟨b, off, spot⟩ := by simp [Addr.add]
  rw [e] at h
  refine ⟨b, off, ?_, World.block_lt_of_cell? w _ h⟩
  cases spot with
  | none => rfl
  | some s =>
    exfalso
    simp only [World.cell?] at h
    split at h <;> simp at h
theorem rd_of' {w : World} {a : Addr} {len cap : Nat} {V : Nat → Value} (hl : len ≤ cap) (h : ∀ i, i < len → w.cell? (a.add i) = some (V i)) : Rd w w.heap.size (.slice (some a) len cap) ((List.range len).map V) := by
  refine ⟨some a, cap, by simp, by simpa using hl, fun hn => ?_⟩
  have hn' : 0 < len := by simpa using hn
  obtain ⟨b, off, rfl, hb⟩ := addr_lit' (h 0 hn')
  refine ⟨b, off, rfl, hb, fun j u hu => ?_⟩
  have hj : j < len := by have := (List.getElem?_eq_some_iff.1 hu).1; simpa using this
  rw [List.getElem?_map, List.getElem?_range hj] at hu
  have := h j hj
  rw [Addr.add_lit] at this
  rw [this]; exact hu
theorem open_nums {H : Type} {enc : TypeId × Value → H} {P : Program} {W : World} {base : Nat} {sp : Nat → Bool} {hd : Bool} {v : Value} {d : DataW H} {p : List MemPlace} {t e : TypeId} {k : IntKind} {bs : Nat}
    (ht : P.underlying t = some (.slice e)) (he : P.underlying e = some (.int k)) (hc : P.cellsOf e = 1) (hbs : P.bytesOf e = bs) (h1 : 1 ≤ bs)
    (hv : Value.okWide P W .any base t v) (h : DataW.Trod enc P W 0 sp hd t v d p) :
    ∃ xs : List Int, Rd W W.heap.size v (xs.map (Value.int k)) ∧ (∀ x ∈ xs, (Lit.int k x).wf = true) ∧ ((∀ n ∈ d.weights P t, n ≤ reachBytes) → xs.length ≤ 140737488355328) := by
  obtain ⟨A, l, c, rfl⟩ := okWide_slice ht hv
  obtain ⟨fuel, hf⟩ := h
  rcases Deep.open_slice1 (e := e) ht hc hf with ⟨h1', h2⟩ | ⟨a, len, cap, m, n, V, D, Pl, h1', _, hl, _, hmm, h2, hx⟩
  · simp only [Value.cells, List.cons.injEq, and_true] at h1'
    rw [h1']
    exact ⟨[], Rd.nil _ _, (fun _ h => by cases h), (fun _ => Nat.zero_le _)⟩
  · simp only [Value.cells, List.cons.injEq, and_true] at h1'
    rw [h1']
    simp only [Prod.mk.injEq] at h2
    obtain ⟨rfl, _⟩ := h2
    have hlm : len ≤ m := by rw [hmm]; split <;> omega
    have each : ∀ i, i < len → ∃ z : Int, V i = .int k z ∧ (Lit.int k z).wf = true := by
      intro i hi
      obtain ⟨s, h1, _, h3⟩ := DataW.trod_int he (hx i (by omega)).2
      simp only [List.cons.injEq, and_true] at h1
      exact ⟨s, h1, h3⟩
    obtain ⟨S, hS⟩ := Deep.choose_lt each
    refine ⟨(List.range len).map S, ?_, fun x hx => ?_, fun hw => ?_⟩
    · have hr := rd_of' (w := W) (V := fun i => .int k (S i)) hl (fun i hi => by rw [(hx i (by omega)).1, (hS i hi).1])
      rw [List.map_map]
      exact hr
    · obtain ⟨i, hi, rfl⟩ := List.mem_map.1 hx
      exact (hS i (by simpa using hi)).2
    · have := hw _ (by simp only [DataW.weights, ht]; exact List.mem_cons_self ..)
      simp only [List.length_map, List.length_range, hbs] at this
      unfold reachBytes at this
      simp only [List.length_map, List.length_range]
      have h2 : (len + (m - len)) * 1 ≤ (len + (m - len)) * bs := Nat.mul_le_mul_left _ h1
      omega
end Go.Bd
namespace Go.Proofs.YtcjmfjccjhdgjaaGreatDoor.blocksEmpty
open Go.ChangeShapes Go.WideShapes Go.ChangeAt Go.RowKit Go.Bd Go.WideMaps Go.WideElems
open Go.ChangeMaps (open_string shut_string)
set_option maxRecDepth 100000 in
theorem contract (H : Type) (enc : TypeId × Value → H) (W : World) (base : Nat) (args : Array Value) (ds gs : List (DataW H)) (before : List MemPlace)
    (hval : ∀ (j : Nat) t v, Tryz.f6.params[j]? = some t → args[j]? = some v → Value.okWide Tryz.prog W .any base t v)
    (hW : DataW.Whole enc Tryz.prog Tryz.f6.params.toList Rows.blocksEmptySpec.vars false W args.toList ds gs before) (hsh : W.ShapedOpen Tryz.prog)
    (hsz : (DataW.weightsEach Tryz.prog (Tryz.f6.params.toList ++ (OpenSpec.ofChange Rows.blocksEmptySpec).bare.plain.varTypes Tryz.prog) (ds ++ gs)).all (· ≤ reachBytes) = true) (hU : Lib.Utf8Tabs 1 2 W) :
    Calls Tryz.prog 6 args W fun e W' => ∃ v, e = .returned v ∧ Rows.blocksEmptySpec.post enc Tryz.prog Tryz.f6 false true false false W args v W' := by
  obtain ⟨m, hm⟩ := maxLen_cell W hsh
  have hW' := hW
  obtain ⟨p, q, hA0, hV, rfl, hfz, hnd⟩ := hW
  have hA : DataW.TrodAll enc Tryz.prog W 0 (fun _ => true) true Tryz.f6.params.toList args.toList ds p := hA0
  rw [Tryz.params6] at hA hval hsz
  obtain ⟨v0, vs0, d0, ds0, p0, q0, hargs, rfl, rfl, h0, r0⟩ := trodAll_cons hA
  obtain ⟨rfl, rfl, rfl⟩ := trodAll_nil r0
  obtain rfl : args = #[v0] := by cases args; simp_all
  obtain ⟨rfl, rfl⟩ := trodVars_none hV
  obtain ⟨xs0, hR0, hwf0, bs0⟩ := open_nums (bs := 1) Tryz.underlying43 Tryz.underlying5 (by kernel_rfl) (by kernel_rfl) (by decide) (hval 0 43 v0 rfl rfl) h0
  have b0 := bs0 (fun n hn => by have := List.all_eq_true.1 hsz n (DataW.weights_mem_each (j := 0) rfl rfl n hn); simpa using this)
  refine (blocksEmpty_true v0 xs0 m W ⟨hm, hU⟩ hR0 hwf0 b0).mono fun e W' ⟨he, hg⟩ => ?_
  subst he
  exact law_post hW' hg laidOut (by rw [Tryz.params6]; intro t ht; simp at ht; subst ht; exact ⟨by kernel_rfl, of_decide_eq_true (by kernel_rfl)⟩) rfl rfl (by kernel_rfl) Tryz.underlying4
theorem laid_met (os : Os) : laidMet Tryz.prog Rows.blocksEmptyRow.laid ((laidWorld os).forCall (fun _ _ => 0) ⟨#[], #[.slice none 0 0], []⟩).memory :=
  laidMet_of_run' 8 (by kernel_rfl) (by kernel_rfl)
theorem reads (os : Os) {H : Type} (enc : TypeId × Value → H) : ∃ places, DataW.whole enc Tryz.prog ((laidWorld os).forCall (fun _ _ => 0) ⟨#[], #[.slice none 0 0], []⟩).memory Tryz.f6.params.toList Rows.blocksEmptySpec.vars false (#[.slice none 0 0] : Array Value).toList 8 = some ([.nil], [], places) :=
  ⟨[], by kernel_rfl⟩
set_option maxRecDepth 100000 in
theorem lifted (os : Os) (started : os.Started) (H : Type) (enc : TypeId × Value → H) (F : Stop.Interp) :
    ReturnsInHanded {} Tryz.checked os 6 .any ((OpenSpec.ofChange Rows.blocksEmptySpec).preRow enc Tryz.prog Tryz.f6 Rows.blocksEmptyRow.domain false Rows.blocksEmptyRow.laid) (((OpenSpec.ofChange Rows.blocksEmptySpec).at F).post enc Tryz.prog Tryz.f6 false true false false) := by
  obtain ⟨places, hx⟩ := reads os enc
  refine returnsInHanded_of_row (C := Tryz.checked) (s := OpenSpec.ofChange Rows.blocksEmptySpec) own started (by kernel_rfl) Tryz.func6
    (witness_row_at (enc := enc) (C := Tryz.checked) false (laidWorld os) #[.slice none 0 0] rfl (by kernel_rfl) (by kernel_rfl) (by kernel_rfl)
      (OpenSpec.preRow_of_cond 8 hx (by kernel_rfl) (fun k hk => by cases hk) (by kernel_rfl) (laid_met os))) ?_
  intro W base args ds gs before hval hW _ _ hsz hL hsh _
  have hL' : laidMet Tryz.prog Rows.blocksEmptyRow.laid W := hL
  exact contract H enc W base args ds gs before hval hW hsh hsz (tabs_of hL')
theorem said : Rows.BlocksEmptySaid :=
  OpenClaim.holds_of_cond 6 Tryz.f6 rfl rfl rfl rfl rfl rfl rfl ⟨rfl, rfl, rfl, rfl, rfl⟩ rfl rfl rfl rfl rfl (by kernel_rfl) Tryz.func6 (by kernel_rfl)
    (of_decide_eq_true (by kernel_rfl)) (by unfold Func.isWrapper; first | (rw [if_pos (by decide +kernel)]; kernel_rfl) | (rw [if_neg (by decide +kernel)]; exact ⟨rfl, rfl⟩))
    (fun os started H enc _ F => by rw [OpenClaim.pre_eq_preRow]; exact lifted os started H enc F)
theorem plain (f : FuncId) (fn : Func) (hf : Tryz.pinned.checked.prog.funcNamed Tryz.f6.name = some f) (hfn : Tryz.pinned.checked.prog.funcs[f]? = some fn) :
    false = Tryz.pinned.checked.prog.looks [] ∧ ∀ (j : Nat) t, fn.params[j]? = some t → Tryz.pinned.checked.prog.wantsStandIn t = false := by
  obtain rfl : f = 6 := Option.some.inj ((show Tryz.prog.funcNamed Tryz.f6.name = some 6 by kernel_rfl).symm.trans hf) |>.symm
  obtain rfl : fn = Tryz.f6 := (Option.some.inj (Tryz.func6.symm.trans hfn)).symm
  refine ⟨by kernel_rfl, fun j t ht => ?_⟩
  rw [Tryz.params6] at ht
  obtain rfl : t = 43 := by simpa using Array.mem_of_getElem? ht
  exact (show Tryz.prog.wantsStandIn 43 = false by kernel_rfl)
theorem card : Rows.BlocksEmptyCardSaid :=
  Claim7.holds_tied_plain_at .later [] _ _ _ _ said (fun _ h => by cases h) (by kernel_rfl) (fun _ h => by cases h) blocksEmpty_row_tie rfl ⟨rfl, rfl⟩ (by kernel_rfl) rfl plain (by kernel_rfl)
end Go.Proofs.YtcjmfjccjhdgjaaGreatDoor.blocksEmpty
