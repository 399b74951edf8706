/-
  The law BlocksTitles: for every input it answers true, and the input reads as it did: the row, and its card. Its conditions: those of the given row alone.
-/
import Derived.Deep.Slices
import Derived.ChangeArms
import Derived.WideShapes
import Derived.SizedLaws
import Derived.Test.YtcjmfjccjhdgjaaGreatDoorK7
set_option linter.unusedSimpArgs false
set_option linter.unusedVariables false
namespace Go.Bd
open Go.RowKit
/-- a line of blanks, out of a byte -/
def eTx (x : Int) : ByteArray := if x % 4 = 0 then ⟨#[]⟩ else if x % 4 = 1 then ⟨#[32]⟩ else if x % 4 = 2 then ⟨#[9]⟩ else ⟨#[32, 9, 32]⟩
theorem eTx_trim (x : Int) : trim (eTx x).data.toList = [] := by
  unfold eTx
  repeat' split
  all_goals decide
theorem eTx_size (x : Int) : (eTx x).size ≤ 3 := by
  unfold eTx
  repeat' split
  all_goals decide
theorem sum_le_mul : ∀ {l : List ByteArray} {k : Nat}, (∀ s ∈ l, s.size ≤ k) → (l.map (·.size)).sum ≤ l.length * k
  | [], k, _ => by simp
  | x :: l, k, h => by
    have h1 := sum_le_mul (l := l) (k := k) (fun s hs => h s (List.mem_cons_of_mem _ hs))
    have h2 := h x (List.mem_cons_self ..)
    rw [List.map_cons, List.sum_cons, List.length_cons, Nat.succ_mul]
    omega
end Go.Bd
namespace Go.Proofs.YtcjmfjccjhdgjaaGreatDoor
open Go.RowKit Go.Bd
theorem tr_data (s : ByteArray) : (tr s).data.toList = trim s.data.toList := by simp [tr]
theorem readR_nil (f : ByteArray) (no : Int) {s : ByteArray} (rest : List Ln) (h : s.data.toList = []) : readR f no s rest = (0, [], []) := by
  unfold readR
  rw [h, if_neg (by decide), if_neg (by decide), if_pos rfl]
theorem step_blank {x : Ln} (rest : List Ln) (h : trim x.text.data.toList = []) : stepR x rest = (0, [], []) := by
  unfold stepR
  rw [h]
  have e : commandB [] = none := by decide
  rw [e]
  exact readR_nil _ _ _ (by rw [tr_data, h])
theorem blank_blocks : ∀ {l : List ByteArray} (n : Nat) (t : List Ln), (∀ s ∈ l, trim s.data.toList = []) → blocksOf (lnsFrom n l ++ t) = blocksOf t ∧ diagsOf (lnsFrom n l ++ t) = diagsOf t
  | [], n, t, _ => ⟨rfl, rfl⟩
  | x :: l, n, t, h => by
    have ih := blank_blocks (l := l) (n + 1) t (fun s hs => h s (List.mem_cons_of_mem _ hs))
    rw [lnsFrom, List.cons_append, blocksOf_cons, diagsOf_cons, step_blank _ (h x (List.mem_cons_self ..))]
    exact ⟨by simpa using ih.1, by simpa using ih.2⟩
def ex1 : Ln := ⟨⟨#[102]⟩, 1, ⟨#[61, 32, 120]⟩⟩
theorem cmd_ex : commandB (trim [61, 32, 120]) = none := by decide
theorem cmd_ey : commandB (trim [121]) = none := by decide
theorem read_ex : 0 < (leadB [61, 32, 120] 61).1 := by decide
theorem step_ex (rest : List Ln) : (stepR ex1 rest).1 = 0 ∧ (stepR ex1 rest).2.1.length = 1 ∧ (stepR ex1 rest).2.2 = [] := by
  have e : stepR ex1 rest = headR ⟨#[102]⟩ 1 ⟨#[61, 32, 120]⟩ := by
    unfold stepR ex1
    simp only
    rw [show trim (⟨#[61, 32, 120]⟩ : ByteArray).data.toList = trim [61, 32, 120] from rfl, cmd_ex]
    simp only
    rw [show tr ⟨#[61, 32, 120]⟩ = ⟨#[61, 32, 120]⟩ by decide]
    unfold readR
    rw [if_pos (show 0 < (leadB (⟨#[61, 32, 120]⟩ : ByteArray).data.toList 61).1 from read_ex)]
  rw [e]
  exact ⟨rfl, rfl, List.length_eq_zero_iff.1 (by decide +kernel)⟩
theorem step_ey (no : Int) : stepR ⟨⟨#[102]⟩, no, ⟨#[121]⟩⟩ [] = paraR ⟨#[102]⟩ no ⟨#[121]⟩ [] := by
  unfold stepR
  simp only
  rw [show trim (⟨#[121]⟩ : ByteArray).data.toList = trim [121] from rfl, cmd_ey]
  simp only
  rw [show tr ⟨#[121]⟩ = ⟨#[121]⟩ by decide]
  unfold readR
  rw [if_neg (by decide), if_neg (by decide), if_neg (by decide), if_neg (by decide), if_neg (by decide)]
theorem empty_law (l : List ByteArray) (h : ∀ s ∈ l, trim s.data.toList = []) : blocksOf (linesOf l) = [] ∧ diagsOf (linesOf l) = [] ∧ diagsOf (linesOf (⟨#[61, 32, 120]⟩ :: l ++ [⟨#[121]⟩])) = [] ∧ ∃ a b, blocksOf (linesOf (⟨#[61, 32, 120]⟩ :: l ++ [⟨#[121]⟩])) = [a, b] ∧ b.kind = 2 ∧ b.line = (l.length : Int) + 2 := by
  have h1 := blank_blocks 1 [] h
  rw [List.append_nil] at h1
  have h2 := blank_blocks 2 (lnsFrom (2 + l.length) [⟨#[121]⟩]) h
  have e : linesOf (⟨#[61, 32, 120]⟩ :: l ++ [⟨#[121]⟩]) = ex1 :: (lnsFrom 2 l ++ lnsFrom (2 + l.length) [⟨#[121]⟩]) := by
    unfold linesOf
    rw [List.cons_append, lnsFrom, lnsFrom_append]
    rfl
  obtain ⟨k1, k2, k3⟩ := step_ex (lnsFrom 2 l ++ lnsFrom (2 + l.length) [⟨#[121]⟩])
  obtain ⟨a, ha⟩ := List.length_eq_one_iff.1 k2
  have hy : lnsFrom (2 + l.length) [⟨#[121]⟩] = [⟨⟨#[102]⟩, ((2 + l.length : Nat) : Int), ⟨#[121]⟩⟩] := rfl
  have b1 : blocksOf (lnsFrom (2 + l.length) [⟨#[121]⟩]) = (paraR ⟨#[102]⟩ ((2 + l.length : Nat) : Int) ⟨#[121]⟩ []).2.1 := by
    rw [hy, blocksOf_cons, step_ey, List.drop_nil, blocksOf_nil, List.append_nil]
  have d1 : diagsOf (lnsFrom (2 + l.length) [⟨#[121]⟩]) = (paraR ⟨#[102]⟩ ((2 + l.length : Nat) : Int) ⟨#[121]⟩ []).2.2 := by
    rw [hy, diagsOf_cons, step_ey, List.drop_nil, diagsOf_nil, List.append_nil]
  refine ⟨h1.1, h1.2, ?_, ?_⟩
  · rw [e, diagsOf_cons, k1, k3, List.drop_zero, List.nil_append, h2.2, d1]
    have : faultsOf (paraB [] 0 ⟨#[121]⟩) = [] := by decide +kernel
    simp only [paraR, this, List.map_nil]
  · rw [e, blocksOf_cons, k1, ha, List.drop_zero, h2.1, b1]
    exact ⟨a, _, rfl, rfl, by simp; omega⟩
set_option maxRecDepth 100000 in
set_option maxHeartbeats 8000000 in
theorem blocksEmpty_true (v : Value) (xs : List Int) (m : Int) (w : World) (hm : Glob m w) (hR : Rd w w.heap.size v (xs.map (Value.int .u8))) (hwf : ∀ x ∈ xs, (Lit.int .u8 x).wf = true) (hl : xs.length ≤ 140737488355328) :
    Calls Tryz.prog 6 #[v] w fun e w' => e = .returned (.bool true) ∧ Below w.heap.size w w' := by
  obtain ⟨A, c, rfl, hcl, f⟩ := hR.form
  rw [List.length_map] at hcl ⊢
  have F : Hid (∀ (j : Nat) x, xs[j]? = some x → ∃ b off, A = some ⟨b, off, none⟩ ∧ b < w.heap.size ∧ w.cell? ⟨b, off + j, none⟩ = some (.int .u8 x)) := fun j x hj => by
    obtain ⟨b, off, h1, h2, h3⟩ := f j (.int .u8 x) (by rw [List.getElem?_map, hj]; rfl)
    exact ⟨b, off, h1, by omega, h3⟩
  have HW : Hid (∀ x ∈ xs, 0 ≤ x ∧ x ≤ 255) := fun x hx => by
    obtain ⟨h1, h2⟩ := bounds_u8 (hwf x hx)
    exact ⟨h1, by omega⟩
  clear hR f hwf
  obtain ⟨n, hn⟩ : ∃ n, xs.length = n := ⟨_, rfl⟩
  rw [hn] at hl hcl ⊢
  have CA := alive_any hm
  have HM := Lib.hid hm
  have HN := Lib.hid hn
  clear hm hn
  go_enter Tryz.func6, Tryz.ntmps6
  go_wp2_with fail
  refine CA.mono ?_
  clear CA
  rintro e w1 ⟨rfl, hb1⟩
  by_cases hbig : 300 < n
  · have hbi : decide (300 < (n : Int)) = true := by simp; omega
    have CA := alive_any (HM.out.below hb1)
    have HB1 := Lib.hid hb1
    clear hb1
    go_wp2_with fail
    refine CA.mono ?_
    rintro e w2 ⟨rfl, hb2⟩
    go_wp2
    go_ret
    exact ⟨rfl, HB1.out.trans (hb2.mono HB1.out.size)⟩
  · have hbi : decide (300 < (n : Int)) = false := by simp; omega
    have hs1 := hb1.size
    have HB1 := Lib.hid hb1
    clear hb1
    go_wp2
    go_loopg [3, 4] n (fun q vt vi wr => ∃ k : Nat, k + q = n ∧ vi = .int .i64 (k : Int) ∧ Hid (wr.ownsRow w1.heap.size 9 1 vt k (((xs.take k).map eTx).map Value.string) ∧ Below w1.heap.size w1 wr ∧ (k = 0 → vt = .slice none 0 0)))
    case atStart => exact ⟨0, by omega, rfl, World.ownsRow_nil _ _ _ _, Below.refl _ _, fun _ => rfl⟩
    case round =>
      obtain ⟨k, hk, rfl, HK⟩ := hrel
      obtain ⟨TA, tc, rfl, _⟩ := owns_form HK.out.1
      by_cases hlt : k < n
      · obtain ⟨x, hx⟩ : ∃ x, xs[k]? = some x := ⟨_, List.getElem?_eq_getElem (by have := HN.out; omega)⟩
        obtain ⟨hx0, hx1⟩ := HW.out x (List.mem_of_getElem? hx)
        obtain ⟨b, off, rfl, hb, hc0⟩ := F.out k x hx
        replace hc0 := ((HB1.out.trans (HK.out.2.1.mono hs1)).cell (p := ⟨b, off + k, none⟩) hb).trans hc0
        have hbr : b < wr.heap.size := by have := HK.out.2.1.size; omega
        have htk : ((xs.take (k + 1)).map eTx).map Value.string = ((xs.take k).map eTx).map Value.string ++ [.string (eTx x)] := by rw [List.take_add_one, hx]; simp
        have HTK := Lib.hid htk
        have hws := HK.out.2.1.size
        have hq : x % 4 = 0 ∨ x % 4 = 1 ∨ x % 4 = 2 ∨ x % 4 = 3 := by omega
        clear htk hx
        rcases hq with hq | hq | hq | hq
        · have he : eTx x = ⟨#[]⟩ := by unfold eTx; simp [hq]
          have HE := Lib.hid he
          clear he
          go_wp2_with (at_builtin; refine wpList_app1 _ rfl _ _ 22 rfl w1.heap.size 9 (.string ⟨#[]⟩) 16 Tryz.underlying22 strs_info rfl _ k _ rfl ((HK.out.1.alloc _).alloc _) _ 1 (.string ⟨#[]⟩) rfl (by simp) rfl (by unfold maxLen; omega) (by omega) (by simp; omega) ?_)
          intro v3 w3 hown3 hgr3
          have hb3 : Below w1.heap.size w1 w3 := ((HK.out.2.1.alloc hws _).alloc (by simp; omega) _).grown hgr3 (by simp; omega) (fun q hq => by obtain ⟨_, _, _, hb⟩ := owns_form HK.out.1; exact (hb q hq).1)
          have H3 : Hid (w3.ownsRow w1.heap.size 9 1 v3 (k + 1) (((xs.take (k + 1)).map eTx).map Value.string) ∧ Below w1.heap.size w1 w3) := Lib.hid ⟨by rw [HTK.out, HE.out, List.map_map, List.map_take]; exact hown3, hb3⟩
          clear hown3 hgr3 hb3 hc0
          go_wp2
          go_roundg (gk - 1)
          case measure => omega
          case rel => exact ⟨k + 1, by omega, by go_num, H3.out.1, H3.out.2, fun e => absurd e (by omega)⟩
        · have he : eTx x = ⟨#[32]⟩ := by unfold eTx; simp [hq]
          have HE := Lib.hid he
          clear he
          go_wp2_with (at_builtin; refine wpList_app1 _ rfl _ _ 22 rfl w1.heap.size 9 (.string ⟨#[]⟩) 16 Tryz.underlying22 strs_info rfl _ k _ rfl ((HK.out.1.alloc _).alloc _) _ 1 (.string ⟨#[32]⟩) rfl (by simp) rfl (by unfold maxLen; omega) (by omega) (by simp; omega) ?_)
          intro v3 w3 hown3 hgr3
          have hb3 : Below w1.heap.size w1 w3 := ((HK.out.2.1.alloc hws _).alloc (by simp; omega) _).grown hgr3 (by simp; omega) (fun q hq => by obtain ⟨_, _, _, hb⟩ := owns_form HK.out.1; exact (hb q hq).1)
          have H3 : Hid (w3.ownsRow w1.heap.size 9 1 v3 (k + 1) (((xs.take (k + 1)).map eTx).map Value.string) ∧ Below w1.heap.size w1 w3) := Lib.hid ⟨by rw [HTK.out, HE.out, List.map_map, List.map_take]; exact hown3, hb3⟩
          clear hown3 hgr3 hb3 hc0
          go_wp2
          go_roundg (gk - 1)
          case measure => omega
          case rel => exact ⟨k + 1, by omega, by go_num, H3.out.1, H3.out.2, fun e => absurd e (by omega)⟩
        · have he : eTx x = ⟨#[9]⟩ := by unfold eTx; simp [hq]
          have HE := Lib.hid he
          clear he
          go_wp2_with (at_builtin; refine wpList_app1 _ rfl _ _ 22 rfl w1.heap.size 9 (.string ⟨#[]⟩) 16 Tryz.underlying22 strs_info rfl _ k _ rfl ((HK.out.1.alloc _).alloc _) _ 1 (.string ⟨#[9]⟩) rfl (by simp) rfl (by unfold maxLen; omega) (by omega) (by simp; omega) ?_)
          intro v3 w3 hown3 hgr3
          have hb3 : Below w1.heap.size w1 w3 := ((HK.out.2.1.alloc hws _).alloc (by simp; omega) _).grown hgr3 (by simp; omega) (fun q hq => by obtain ⟨_, _, _, hb⟩ := owns_form HK.out.1; exact (hb q hq).1)
          have H3 : Hid (w3.ownsRow w1.heap.size 9 1 v3 (k + 1) (((xs.take (k + 1)).map eTx).map Value.string) ∧ Below w1.heap.size w1 w3) := Lib.hid ⟨by rw [HTK.out, HE.out, List.map_map, List.map_take]; exact hown3, hb3⟩
          clear hown3 hgr3 hb3 hc0
          go_wp2
          go_roundg (gk - 1)
          case measure => omega
          case rel => exact ⟨k + 1, by omega, by go_num, H3.out.1, H3.out.2, fun e => absurd e (by omega)⟩
        · have he : eTx x = ⟨#[32, 9, 32]⟩ := by unfold eTx; simp [hq]
          have HE := Lib.hid he
          clear he
          go_wp2_with (at_builtin; refine wpList_app1 _ rfl _ _ 22 rfl w1.heap.size 9 (.string ⟨#[]⟩) 16 Tryz.underlying22 strs_info rfl _ k _ rfl ((HK.out.1.alloc _).alloc _) _ 1 (.string ⟨#[32, 9, 32]⟩) rfl (by simp) rfl (by unfold maxLen; omega) (by omega) (by simp; omega) ?_)
          intro v3 w3 hown3 hgr3
          have hb3 : Below w1.heap.size w1 w3 := ((HK.out.2.1.alloc hws _).alloc (by simp; omega) _).grown hgr3 (by simp; omega) (fun q hq => by obtain ⟨_, _, _, hb⟩ := owns_form HK.out.1; exact (hb q hq).1)
          have H3 : Hid (w3.ownsRow w1.heap.size 9 1 v3 (k + 1) (((xs.take (k + 1)).map eTx).map Value.string) ∧ Below w1.heap.size w1 w3) := Lib.hid ⟨by rw [HTK.out, HE.out, List.map_map, List.map_take]; exact hown3, hb3⟩
          clear hown3 hgr3 hb3 hc0
          go_wp2
          go_roundg (gk - 1)
          case measure => omega
          case rel => exact ⟨k + 1, by omega, by go_num, H3.out.1, H3.out.2, fun e => absurd e (by omega)⟩
      · obtain rfl : k = n := by omega
        obtain ⟨ts, hts⟩ : ∃ ts, xs.map eTx = ts := ⟨_, rfl⟩
        have htl : ts.length = k := by rw [← hts, List.length_map]; exact HN.out
        have H := HK.out
        rw [List.take_of_length_le (by have := HN.out; omega), hts] at H
        have hLAW := empty_law ts (fun s hs => by
          rw [← hts] at hs
          obtain ⟨x, _, rfl⟩ := List.mem_map.1 hs
          exact eTx_trim x)
        have hsz : (ts.map (·.size)).sum ≤ 900 := by
          have := sum_le_mul (l := ts) (k := 3) (fun s hs => by
            rw [← hts] at hs
            obtain ⟨x, _, rfl⟩ := List.mem_map.1 hs
            exact eTx_size x)
          omega
        have HL := Lib.hid hLAW
        have hbw := HB1.out.trans (H.2.1.mono hs1)
        have hR1 : Rd wr wr.heap.size (.slice TA k tc) (ts.map Value.string) := own_rd H.1
        have CO := of_any hR1 (Nat.le_refl _) (by omega)
        have H1 := Lib.hid (And.intro H.1 hbw)
        have HK0 := Lib.hid H.2.2
        clear hts hLAW H hbw hR1
        go_wp2_with fail
        refine CO.mono ?_
        clear CO
        rintro e w2 ⟨lv, rfl, ho, hb2⟩
        have hB2 := H1.out.2.trans (hb2.mono H1.out.2.size)
        have CP := parsed_any (xs := ts) (HM.out.below hB2) (by unfold wtT; omega) ho hb2
        have H2 := Lib.hid (And.intro hb2 hB2)
        clear ho hb2 hB2
        go_wp2_with fail
        refine CP.mono ?_
        clear CP
        rintro e w3 ⟨⟨O, F1, rb, lv2, bv, dv, rfl, hr, _, _⟩, hb3⟩
        have hb13 := H2.out.1.trans (hb3.mono H2.out.1.size)
        have hB3 := H2.out.2.trans (hb3.mono H2.out.2.size)
        obtain ⟨BA, bc, rfl⟩ := hr.bform
        obtain ⟨DA, dc, rfl⟩ := hr.dform
        rw [HL.out.1, HL.out.2.1]
        have hown3 := own_below H1.out.1 hb13
        have hk00 := HK0.out
        have H3 := Lib.hid (And.intro hB3 (And.intro hown3 hk00))
        have hkn : k ≤ 300 := by omega
        clear hr hb3 hb13 hB3 hown3 hk00
        simp only [List.length_nil]
        have hlit := own_lit w3 9 [.string ⟨#[61, 32, 120]⟩] (by show (1 : Nat) ≤ maxLen; unfold maxLen; omega)
        have hown4 : (w3.alloc (.cells #[.string ⟨#[61, 32, 120]⟩] 9)).ownsRow w1.heap.size 9 1 (.slice TA k tc) k (ts.map Value.string) := H3.out.2.1.alloc _
        have HLI := Lib.hid (And.intro hlit hown4)
        clear hlit hown4
        by_cases hk0 : k = 0
        · obtain ⟨rfl, rfl⟩ : TA = none ∧ tc = 0 := by
            have := H3.out.2.2 hk0
            injection this with e1 e2 e3
            exact ⟨e1, e3⟩
          have hts0 : ts = [] := List.length_eq_zero_iff.1 (by omega)
          have HT0 := Lib.hid hts0
          subst hk0
          clear hts0
          obtain ⟨i0, hi0, hz0, hz1, hz2⟩ := info_parts strs_info
          have hown4 : (w3.alloc (.cells #[.string ⟨#[61, 32, 120]⟩] 9)).ownsRow w3.heap.size 9 1 (.slice (some ⟨w3.heap.size, 0, none⟩) 1 1) 1 ((⟨#[61, 32, 120]⟩ :: ts).map Value.string) := by rw [HT0.out]; exact HLI.out.1
          have hb4 : Below w3.heap.size w3 (w3.alloc (.cells #[.string ⟨#[61, 32, 120]⟩] 9)) := (Below.refl _ _).alloc (Nat.le_refl _) _
          have hs4 := hb4.size
          have H4 := Lib.hid (And.intro hown4 hb4)
          clear hown4 hb4
          go_wp2_with (first | (at_builtin; refine wpList_append_own_none (by rfl) _ _ _ (by rfl) w3.heap.size 9 i0 1 Tryz.underlying22 hi0 (.slice (some ⟨w3.heap.size, 0, none⟩) 1 1) 1 [.string ⟨#[61, 32, 120]⟩] (by rfl) HLI.out.1 (by rfl) ?_) | (at_builtin; refine wpList_app1 _ rfl _ _ 22 rfl w3.heap.size 9 (.string ⟨#[]⟩) 16 Tryz.underlying22 strs_info rfl _ 1 _ rfl (H4.out.1.alloc _) _ 1 (.string ⟨#[121]⟩) rfl (by simp) rfl (by unfold maxLen; omega) (by omega) (by simp; try omega) ?_))
          intro v5 w5 hown5 hgr5
          have hb5 : Below w3.heap.size w3 w5 := (H4.out.2.alloc hs4 _).grown hgr5 (by simp; try omega) (fun q hq => by obtain ⟨_, _, _, hb⟩ := owns_form H4.out.1; exact (hb q hq).1)
          have hR5 : Rd w5 w5.heap.size v5 (((⟨#[61, 32, 120]⟩ : ByteArray) :: ts ++ [(⟨#[121]⟩ : ByteArray)]).map Value.string) := by have e := own_rd hown5; simpa using e
          have hB5 := H3.out.1.trans (hb5.mono H3.out.1.size)
          have CO := of_any hR5 (Nat.le_refl _) (by simp; omega)
          have H5 := Lib.hid hB5
          clear hown5 hgr5 hb5 hR5 hB5
          go_wp2_with fail
          refine CO.mono ?_
          clear CO
          rintro e w6 ⟨lv6, rfl, ho6, hb6⟩
          have hB6 := H5.out.trans (hb6.mono H5.out.size)
          have CP := parsed_any (xs := ⟨#[61, 32, 120]⟩ :: ts ++ [⟨#[121]⟩]) (HM.out.below hB6) (by
            have e1 : (⟨#[61, 32, 120]⟩ : ByteArray).size = 3 := rfl
            have e2 : (⟨#[121]⟩ : ByteArray).size = 1 := rfl
            simp only [wtT, List.cons_append, List.map_cons, List.map_append, List.map_nil, List.sum_cons, List.sum_append, List.sum_nil, List.length_cons, List.length_append, List.length_nil, e1, e2]
            omega) ho6 hb6
          have H6 := Lib.hid hB6
          clear ho6 hb6 hB6
          go_wp2_with fail
          refine CP.mono ?_
          clear CP
          rintro e w7 ⟨⟨O, F1, rb, lv2, bv, dv, rfl, hr, _, _⟩, hb7⟩
          have H7 := Lib.hid (H6.out.trans (hb7.mono H6.out.size))
          obtain ⟨BA2, bc2, rfl⟩ := hr.bform
          obtain ⟨DA2, dc2, rfl⟩ := hr.dform
          obtain ⟨a, b2, hab, hk2, hl2⟩ := HL.out.2.2.2
          rw [hab, HL.out.2.2.1] at hr ⊢
          obtain ⟨g7, _, _, _, _, rfl, _, _, _, c0, _, _, _, _, _, _, _, c8⟩ := hr.blk_at (j := 1) (x := b2) rfl
          rw [hk2] at c0
          rw [hl2, htl] at c8
          simp only [List.length_cons, List.length_nil, Nat.one_mul] at c0 c8 ⊢
          clear hr hb7 hab hk2 hl2
          go_wp2
          go_ret
          exact ⟨ret_bool (by simp), H7.out⟩
        · obtain ⟨gt, tcap, htv, _⟩ := own_some H3.out.2.1 (by omega)
          have htv2 : TA = some ⟨gt, 0, none⟩ := by injection htv
          subst htv2
          clear htv
          obtain ⟨i0, hi0, hz0, hz1, hz2⟩ := info_parts strs_info
          go_wp2_with (at_builtin; refine wpList_append_lies _ (by rfl) _ _ _ (by rfl) w3.heap.size 9 i0 _ 1 16 Tryz.underlying22 hi0 hz0 hz1 hz2 rfl (by omega) (.slice (some ⟨w3.heap.size, 0, none⟩) 1 1) 1 [.string ⟨#[61, 32, 120]⟩] (by rfl) HLI.out.1 ⟨gt, 0, none⟩ k tc (ts.map Value.string) (by rfl) (by rw [List.length_map]; omega) (fun j u hu => HLI.out.2.cells (g := gt) rfl j u hu) (fun u hu => by obtain ⟨_, _, rfl⟩ := List.mem_map.1 hu; rfl) (by omega) (by unfold maxLen; omega) (by omega) (by simp) (w3.heap.size + 1) (by simp) ?_)
          intro g4 cap4 W4 hown4' hg4 hat4 _
          have hown4 : W4.ownsRow w3.heap.size 9 1 (.slice (some ⟨g4, 0, none⟩) (1 + k) cap4) (1 + k) ((⟨#[61, 32, 120]⟩ :: ts).map Value.string) := hown4'
          have hb4 : Below w3.heap.size w3 W4 := ((Below.refl _ _).alloc (Nat.le_refl _) _).grown hg4 (by simp) (fun q hq => by
            have e : w3.heap.size = q := by simpa [Value.ownBlock] using hq
            omega)
          clear hown4' hg4 hat4
          have hs4 := hb4.size
          have H4 := Lib.hid (And.intro hown4 hb4)
          clear hown4 hb4 hi0 hz0 hz1 hz2
          go_wp2_with (at_builtin; refine wpList_app1 _ rfl _ _ 22 rfl w3.heap.size 9 (.string ⟨#[]⟩) 16 Tryz.underlying22 strs_info rfl _ (1 + k) _ rfl (H4.out.1.alloc _) _ 1 (.string ⟨#[121]⟩) rfl (by simp) rfl (by unfold maxLen; omega) (by omega) (by simp; try omega) ?_)
          intro v5 w5 hown5 hgr5
          have hb5 : Below w3.heap.size w3 w5 := (H4.out.2.alloc hs4 _).grown hgr5 (by simp; try omega) (fun q hq => by obtain ⟨_, _, _, hb⟩ := owns_form H4.out.1; exact (hb q hq).1)
          have hR5 : Rd w5 w5.heap.size v5 (((⟨#[61, 32, 120]⟩ : ByteArray) :: ts ++ [(⟨#[121]⟩ : ByteArray)]).map Value.string) := by have e := own_rd hown5; simpa using e
          have hB5 := H3.out.1.trans (hb5.mono H3.out.1.size)
          have CO := of_any hR5 (Nat.le_refl _) (by simp; omega)
          have H5 := Lib.hid hB5
          clear hown5 hgr5 hb5 hR5 hB5
          go_wp2_with fail
          refine CO.mono ?_
          clear CO
          rintro e w6 ⟨lv6, rfl, ho6, hb6⟩
          have hB6 := H5.out.trans (hb6.mono H5.out.size)
          have CP := parsed_any (xs := ⟨#[61, 32, 120]⟩ :: ts ++ [⟨#[121]⟩]) (HM.out.below hB6) (by
            have e1 : (⟨#[61, 32, 120]⟩ : ByteArray).size = 3 := rfl
            have e2 : (⟨#[121]⟩ : ByteArray).size = 1 := rfl
            simp only [wtT, List.cons_append, List.map_cons, List.map_append, List.map_nil, List.sum_cons, List.sum_append, List.sum_nil, List.length_cons, List.length_append, List.length_nil, e1, e2]
            omega) ho6 hb6
          have H6 := Lib.hid hB6
          clear ho6 hb6 hB6
          go_wp2_with fail
          refine CP.mono ?_
          clear CP
          rintro e w7 ⟨⟨O, F1, rb, lv2, bv, dv, rfl, hr, _, _⟩, hb7⟩
          have H7 := Lib.hid (H6.out.trans (hb7.mono H6.out.size))
          obtain ⟨BA2, bc2, rfl⟩ := hr.bform
          obtain ⟨DA2, dc2, rfl⟩ := hr.dform
          obtain ⟨a, b2, hab, hk2, hl2⟩ := HL.out.2.2.2
          rw [hab, HL.out.2.2.1] at hr ⊢
          obtain ⟨g7, _, _, _, _, rfl, _, _, _, c0, _, _, _, _, _, _, _, c8⟩ := hr.blk_at (j := 1) (x := b2) rfl
          rw [hk2] at c0
          rw [hl2, htl] at c8
          simp only [List.length_cons, List.length_nil, Nat.one_mul] at c0 c8 ⊢
          clear hr hb7 hab hk2 hl2
          go_wp2
          go_ret
          exact ⟨ret_bool (by simp), H7.out⟩
end Go.Proofs.YtcjmfjccjhdgjaaGreatDoor
namespace Go.Bd
open Go.RowKit
theorem blank_small {w : Bs} (h : small w = true) {c : UInt8} (hc : c ∈ w) : blank c = false := by
  obtain ⟨j, hj, rfl⟩ := List.mem_iff_getElem.1 hc
  have := (small_get h hj).2.2
  rwa [List.getD_eq_getElem?_getD, List.getElem?_eq_getElem hj] at this
theorem solid_small {w : Bs} (h : small w = true) {c : UInt8} (hc : c ∈ w) : solid c = true := by
  obtain ⟨j, hj, rfl⟩ := List.mem_iff_getElem.1 hc
  have := (small_get h hj).2.1
  rwa [List.getD_eq_getElem?_getD, List.getElem?_eq_getElem hj] at this
theorem has_blank (c : UInt8) : ([32, 9] : Bs).contains c = blank c := by
  rw [Bool.eq_iff_iff, blank_iff]
  simp only [List.contains_eq_mem, List.mem_cons, List.not_mem_nil, or_false, decide_eq_true_eq, ← UInt8.toNat_inj]
  simp; omega
theorem dropL_id {l : Bs} (h : ∀ c, l.head? = some c → blank c = false) : dropL l = l := by
  unfold dropL
  cases l with
  | nil => rfl
  | cons a l => rw [List.dropWhile_cons, if_neg (by rw [h a rfl]; simp)]
theorem dropR_id {l : Bs} (h : ∀ c, l.getLast? = some c → blank c = false) : dropR l = l := by
  unfold dropR
  have e : dropL l.reverse = l.reverse := dropL_id (fun c hc => h c (by rwa [List.head?_reverse] at hc))
  unfold dropL at e
  rw [e, List.reverse_reverse]
theorem trim_id {l : Bs} (h1 : ∀ c, l.head? = some c → blank c = false) (h2 : ∀ c, l.getLast? = some c → blank c = false) : trim l = l := by
  unfold trim
  rw [dropL_id h1, dropR_id h2]
theorem last_small {a w : Bs} (h : small w = true) (hn : w ≠ []) : ∀ c, (a ++ w).getLast? = some c → blank c = false := fun c hc => by
  rw [List.getLast?_append] at hc
  cases hw : w.getLast? with
  | none => rw [List.getLast?_eq_none_iff] at hw; exact absurd hw hn
  | some d =>
    rw [hw] at hc
    simp only [Option.some_or, Option.some.injEq] at hc
    subst hc
    exact blank_small h (List.mem_of_getLast? hw)
theorem head_small {w b : Bs} (h : small w = true) (hn : w ≠ []) : ∀ c, (w ++ b).head? = some c → blank c = false := fun c hc => by
  cases w with
  | nil => exact absurd rfl hn
  | cons a w =>
    simp only [List.cons_append, List.head?_cons, Option.some.injEq] at hc
    subst hc
    exact blank_small h (List.mem_cons_self ..)
theorem name_small {w : Bs} (h : small w = true) (hn : w ≠ []) (hl : w.length ≤ 60) : nameB w = true := by
  unfold nameB
  simp only [Bool.and_eq_true, decide_eq_true_eq]
  refine ⟨⟨⟨List.length_pos_iff.2 hn, hl⟩, ?_⟩, ?_⟩
  · cases w with
    | nil => exact absurd rfl hn
    | cons a w =>
      have h1 := List.all_eq_true.1 h a (List.mem_cons_self ..)
      show ((65 ≤ a && a ≤ 90) || (97 ≤ a && a ≤ 122)) = true
      rw [h1, Bool.or_true]
  · rw [List.all_eq_true]
    intro c hc
    rw [solid_small h hc]; rfl
theorem lastAny_word {a w : Bs} (hw : ∀ c ∈ w, blank c = false) : lastAny (a ++ 32 :: w) [32, 9] = (a.length : Int) := by
  refine lastAny_here (b := 32) (by simp) (by decide) (fun j hj c hc => ?_)
  rw [has_blank]
  rw [List.getElem?_append_right (by omega)] at hc
  obtain ⟨i, hi⟩ : ∃ i, j - a.length = i + 1 := ⟨j - a.length - 1, by omega⟩
  rw [hi, List.getElem?_cons_succ] at hc
  exact hw c (List.mem_of_getElem? hc)
theorem title_plain {w : Bs} (h : small w = true) : titleB w = (w, [], []) := by
  unfold titleB
  rw [lastAny_no (fun c hc => by rw [has_blank]; exact blank_small h hc), if_pos (.inl (by decide))]
theorem title_label {s n : Bs} (hs : small s = true) (hs0 : s ≠ []) (hn : small n = true) (hn0 : n ≠ []) (hl : n.length ≤ 60) : titleB (s ++ 32 :: 35 :: n) = (s, n, []) := by
  have h1 : lastAny (s ++ 32 :: (35 :: n)) [32, 9] = (s.length : Int) := lastAny_word (fun c hc => by
    rcases List.mem_cons.1 hc with rfl | hc
    · decide
    · exact blank_small hn hc)
  have h2 : (s ++ 32 :: 35 :: n).drop (s.length + 1) = 35 :: n := by rw [List.drop_append, List.drop_of_length_le (by omega), Nat.add_sub_cancel_left]; rfl
  unfold titleB
  rw [h1, Int.toNat_natCast, h2]
  rw [if_neg (by simp), if_pos (by simpa using name_small hn hn0 hl), List.take_left, dropR_id (fun c hc => last_small (a := []) hs hs0 c (by simpa using hc))]
  rfl
theorem title_none {s n : Bs} (hn : small n = true) : titleB (s ++ 32 :: 35 :: 49 :: n) = (s ++ 32 :: 35 :: 49 :: n, [], 35 :: 49 :: n) := by
  have h1 : lastAny (s ++ 32 :: (35 :: 49 :: n)) [32, 9] = (s.length : Int) := lastAny_word (fun c hc => by
    rcases List.mem_cons.1 hc with rfl | hc
    · decide
    rcases List.mem_cons.1 hc with rfl | hc
    · decide
    · exact blank_small hn hc)
  have h2 : (s ++ 32 :: 35 :: 49 :: n).drop (s.length + 1) = 35 :: 49 :: n := by rw [List.drop_append, List.drop_of_length_le (by omega), Nat.add_sub_cancel_left]; rfl
  have h3 : nameB (49 :: n) = false := by
    unfold nameB
    simp [letterB]
  unfold titleB
  rw [h1, Int.toNat_natCast, h2]
  rw [if_neg (by simp), if_neg (by simp [h3])]
def ti (k : Nat) : Bs := List.replicate k 61
theorem lead_ti {k : Nat} (h1 : 1 ≤ k) (h3 : k ≤ 3) {r : Bs} (hr : ∀ c, r.head? = some c → blank c = false) : leadB (ti k ++ 32 :: r) 61 = (k, r) := by
  have hlen : (ti k).length = k := by unfold ti; simp
  have hrun : runOf (ti k ++ 32 :: r) 61 = k := by
    refine runOf_at (by rw [List.length_append, hlen]; omega) (fun j hj => ?_) (fun b hb => ?_)
    · rw [List.getElem?_append_left (by omega)]
      unfold ti
      rw [List.getElem?_replicate, if_pos hj]
    · rw [List.getElem?_append_right (by omega), hlen, Nat.sub_self] at hb
      simp only [List.getElem?_cons_zero, Option.some.injEq] at hb
      subst hb; decide
  have hat : (ti k ++ 32 :: r)[k]? = some 32 := by rw [List.getElem?_append_right (by omega), hlen, Nat.sub_self]; rfl
  unfold leadB
  rw [hrun, hat, if_neg (by simp; omega), List.drop_append, List.drop_of_length_le (by omega), hlen, Nat.sub_self]
  have e : dropL (32 :: r) = r := by
    have := dropL_id hr
    unfold dropL at this ⊢
    rw [List.dropWhile_cons, if_pos (by decide), this]
  rw [List.nil_append, List.drop_zero, e]
theorem lead_none {a : UInt8} {l : Bs} {c : UInt8} (h : a ≠ c) : leadB (a :: l) c = (0, []) := by
  have hr : runOf (a :: l) c = 0 := by
    unfold runOf
    rw [List.takeWhile_cons, if_neg (by simpa using h)]
    rfl
  unfold leadB
  rw [hr, if_pos (.inl (by omega))]
theorem command_none {a : UInt8} {l : Bs} (h : a ≠ 33) : commandB (a :: l) = none := by
  unfold commandB
  rw [if_pos (.inr (.inl (by simpa using h)))]
theorem command_fig {r : Bs} (hr : ∀ c, r.head? = some c → blank c = false) : commandB (33 :: 102 :: 105 :: 103 :: 32 :: r) = some ([102, 105, 103], r) := by
  have hi : Lib.indexAny (102 :: 105 :: 103 :: 32 :: r) [32, 9] = 3 := by simp [Lib.indexAny]
  have e : dropL (32 :: r) = r := by
    have := dropL_id hr
    unfold dropL at this ⊢
    rw [List.dropWhile_cons, if_pos (by decide), this]
  unfold commandB
  rw [if_neg (by simp), show (33 :: 102 :: 105 :: 103 :: 32 :: r).drop 1 = 102 :: 105 :: 103 :: 32 :: r from rfl, hi, if_pos (by omega)]
  show some (_, dropL (32 :: r)) = _
  rw [e]
  rfl
theorem fig_words {s r : Bs} (hs : small s = true) (hr : ∀ c, r.head? = some c → blank c = false) : figB (s ++ 32 :: r) = (s, r) := by
  have hi : Lib.indexAny (s ++ 32 :: r) [32, 9] = (s.length : Int) := by
    refine Lib.indexAny_hit (x := 32) (fun j x hj hx => ?_) (by simp) (by decide)
    rw [List.getElem?_append_left hj] at hx
    rw [has_blank]
    exact blank_small hs (List.mem_of_getElem? hx)
  have e : dropL (32 :: r) = r := by
    have := dropL_id hr
    unfold dropL at this ⊢
    rw [List.dropWhile_cons, if_pos (by decide), this]
  unfold figB
  rw [hi, if_pos (by omega), Int.toNat_natCast, List.take_left, List.drop_left, e]
end Go.Bd
namespace Go.Proofs.YtcjmfjccjhdgjaaGreatDoor
open Go.RowKit Go.Bd
theorem plain_word {s : Bs} (h : s.all plainC = true) (hn : s ≠ []) : faultsOf s = [] ∧ spansOf s = [txt s] := by
  obtain ⟨h1, h2⟩ := spans_plain h
  rw [if_neg hn] at h1
  refine ⟨?_, h1⟩
  unfold faultsOf
  rw [h2]
  rfl
theorem titled_label (f : ByteArray) (no : Int) {t s n : Bs} (ht : titleB t = (s, n, [])) (hs : s.all plainC = true) (hs0 : s ≠ []) (x : Bl) : titledD f no ⟨t.toArray⟩ = [] ∧ (titledB x f no ⟨t.toArray⟩).label = ⟨n.toArray⟩ ∧ (titledB x f no ⟨t.toArray⟩).spans = [txt s] := by
  obtain ⟨h1, h2⟩ := plain_word hs hs0
  unfold titledD titledW titledB
  simp only [strV_data, ht, if_true, List.nil_append, h1, List.map_nil, h2]
  exact ⟨trivial, trivial, trivial⟩
theorem head_label {k : Nat} (h1 : 1 ≤ k) (h3 : k ≤ 3) {s n : Bs} (hs : small s = true) (hs0 : s ≠ []) (hn : small n = true) (hn0 : n ≠ []) (hl : n.length ≤ 60) : headB (ti k ++ 32 :: (s ++ 32 :: 35 :: n)) = (k, s, n) := by
  have ht : trim (ti k ++ 32 :: (s ++ 32 :: 35 :: n)) = ti k ++ 32 :: (s ++ 32 :: 35 :: n) := trim_id (fun c hc => by
    obtain ⟨q, rfl⟩ : ∃ q, k = q + 1 := ⟨k - 1, by omega⟩
    simp only [ti, List.replicate_succ, List.cons_append, List.head?_cons, Option.some.injEq] at hc
    subst hc; decide) (fun c hc => last_small (a := ti k ++ 32 :: (s ++ [32, 35])) hn hn0 c (by simpa using hc))
  have hL := lead_ti h1 h3 (r := s ++ 32 :: 35 :: n) (head_small hs hs0)
  unfold headB
  rw [ht, hL, title_label hs hs0 hn hn0 hl, if_neg (by simp; omega)]
theorem head_plain {k : Nat} (h1 : 1 ≤ k) (h3 : k ≤ 3) {s : Bs} (hs : small s = true) (hs0 : s ≠ []) : headB (ti k ++ 32 :: s) = (k, s, []) := by
  have ht : trim (ti k ++ 32 :: s) = ti k ++ 32 :: s := trim_id (fun c hc => by
    obtain ⟨q, rfl⟩ : ∃ q, k = q + 1 := ⟨k - 1, by omega⟩
    simp only [ti, List.replicate_succ, List.cons_append, List.head?_cons, Option.some.injEq] at hc
    subst hc; decide) (fun c hc => last_small (a := ti k ++ [32]) hs hs0 c (by simpa using hc))
  have hL := lead_ti h1 h3 (r := s) (fun c hc => head_small (b := []) hs hs0 c (by simpa using hc))
  unfold headB
  rw [ht, hL, title_plain hs, if_neg (by simp; omega)]
theorem head_none {k : Nat} (h1 : 1 ≤ k) (h3 : k ≤ 3) {s n : Bs} (hs : small s = true) (hs0 : s ≠ []) (hn : small n = true) (hn0 : n ≠ []) :
    trim (ti k ++ 32 :: (s ++ 32 :: 35 :: 49 :: n)) = ti k ++ 32 :: (s ++ 32 :: 35 :: 49 :: n) ∧ leadB (ti k ++ 32 :: (s ++ 32 :: 35 :: 49 :: n)) 61 = (k, s ++ 32 :: 35 :: 49 :: n) ∧ headB (ti k ++ 32 :: (s ++ 32 :: 35 :: 49 :: n)) = (k, s ++ 32 :: 35 :: 49 :: n, []) := by
  have ht : trim (ti k ++ 32 :: (s ++ 32 :: 35 :: 49 :: n)) = ti k ++ 32 :: (s ++ 32 :: 35 :: 49 :: n) := trim_id (fun c hc => by
    obtain ⟨q, rfl⟩ : ∃ q, k = q + 1 := ⟨k - 1, by omega⟩
    simp only [ti, List.replicate_succ, List.cons_append, List.head?_cons, Option.some.injEq] at hc
    subst hc; decide) (fun c hc => last_small (a := ti k ++ 32 :: (s ++ [32, 35, 49])) hn hn0 c (by simpa using hc))
  have hL := lead_ti h1 h3 (r := s ++ 32 :: 35 :: 49 :: n) (head_small hs hs0)
  refine ⟨ht, hL, ?_⟩
  unfold headB
  rw [ht, hL, title_none hn, if_neg (by simp; omega)]
def tL0 (s n : Bs) : Bs := 124 :: 61 :: 61 :: 61 :: (s ++ 32 :: 35 :: n)
def tL2 (s n : Bs) : Bs := 33 :: 102 :: 105 :: 103 :: 32 :: (s ++ 32 :: (s ++ 32 :: 35 :: n))
def tL3 (k : Nat) (s n : Bs) : Bs := ti k ++ 32 :: (s ++ 32 :: 35 :: 49 :: n)
theorem trim_L0 {s n : Bs} (hn : small n = true) (hn0 : n ≠ []) : trim (tL0 s n) = tL0 s n :=
  trim_id (fun c hc => by simp only [tL0, List.head?_cons, Option.some.injEq] at hc; subst hc; decide) (fun c hc => last_small (a := 124 :: 61 :: 61 :: 61 :: (s ++ [32, 35])) hn hn0 c (by simpa [tL0] using hc))
theorem trim_L2 {s n : Bs} (hn : small n = true) (hn0 : n ≠ []) : trim (tL2 s n) = tL2 s n :=
  trim_id (fun c hc => by simp only [tL2, List.head?_cons, Option.some.injEq] at hc; subst hc; decide) (fun c hc => last_small (a := 33 :: 102 :: 105 :: 103 :: 32 :: (s ++ 32 :: (s ++ [32, 35]))) hn hn0 c (by simpa [tL2] using hc))
theorem tr_of {l : Bs} (h : trim l = l) : tr ⟨l.toArray⟩ = ⟨l.toArray⟩ := by unfold tr; rw [strV_data, h]
theorem step_of {l : Bs} (f : ByteArray) (no : Int) (rest : List Ln) (h : trim l = l) : stepR ⟨f, no, ⟨l.toArray⟩⟩ rest = match commandB l with | some p => cmdR f no ⟨l.toArray⟩ p.1 p.2 | none => readR f no ⟨l.toArray⟩ rest := by
  unfold stepR
  simp only [strV_data, h, tr_of h]
  cases commandB l <;> rfl
theorem item_none {a : UInt8} {l : Bs} (h : trim (a :: l) = a :: l) (h1 : a ≠ 42) (h2 : a ≠ 46) : itemB (a :: l) = (0, false, []) := by
  unfold itemB
  rw [h, lead_none h1, lead_none h2, if_neg (by simp), if_neg (by simp)]
theorem titles_law {k : Nat} (h1 : 1 ≤ k) (h3 : k ≤ 3) {s n : Bs} (hs : small s = true) (hs0 : s ≠ []) (hn : small n = true) (hn0 : n ≠ []) (hl : n.length ≤ 60) :
    ∃ a b c d, blocksOf (linesOf [⟨(tL0 s n).toArray⟩, ⟨barsL.toArray⟩, ⟨(tL2 s n).toArray⟩, ⟨(tL3 k s n).toArray⟩]) = [a, b, c] ∧ diagsOf (linesOf [⟨(tL0 s n).toArray⟩, ⟨barsL.toArray⟩, ⟨(tL2 s n).toArray⟩, ⟨(tL3 k s n).toArray⟩]) = [d] ∧
      a.label = ⟨n.toArray⟩ ∧ a.spans = [txt s] ∧ b.label = ⟨n.toArray⟩ ∧ b.text = ⟨s.toArray⟩ ∧ b.spans = [txt s] ∧ c.label = ⟨#[]⟩ ∧ c.level = k ∧ d.fault = 10 ∧ d.text = ⟨(35 :: 49 :: n).toArray⟩ := by
  have hsp := small_plain hs
  have hT := title_label hs hs0 hn hn0 hl
  have hhd : ∀ c : UInt8, (s ++ 32 :: 35 :: n).head? = some c → Bd.blank c = false := head_small hs hs0
  -- the table
  have s0 : ∀ rest : List Ln, (∃ x r, rest = x :: r ∧ trim x.text.data.toList = barsL) → ∃ a, stepR ⟨⟨#[102]⟩, 1, ⟨(tL0 s n).toArray⟩⟩ rest = (1, [a], []) ∧ a.label = ⟨n.toArray⟩ ∧ a.spans = [txt s] := by
    rintro rest ⟨x, r, rfl, hx⟩
    have hk0 : tabN (x :: r) = 0 := by
      unfold tabN untilN
      rw [if_pos (by rw [hx]; decide)]
    have hTb : tabT ⟨(tL0 s n).toArray⟩ = ⟨(s ++ 32 :: 35 :: n).toArray⟩ := by
      unfold tabT
      rw [strV_data]
      show (⟨(dropL (s ++ 32 :: 35 :: n)).toArray⟩ : ByteArray) = _
      rw [dropL_id hhd]
    obtain ⟨t1, t2, t3⟩ := titled_label ⟨#[102]⟩ 1 hT hsp hs0 ⟨6, 0, false, ⟨#[]⟩, ⟨#[]⟩, [], [], ⟨#[]⟩, 0⟩
    refine ⟨titledB ⟨6, 0, false, ⟨#[]⟩, ⟨#[]⟩, [], [], ⟨#[]⟩, 0⟩ ⟨#[102]⟩ 1 ⟨(s ++ 32 :: 35 :: n).toArray⟩, ?_, t2, t3⟩
    rw [step_of _ _ _ (trim_L0 hn hn0)]
    unfold tL0
    rw [command_none (by decide)]
    simp only
    unfold readR
    rw [strV_data, lead_none (by decide), item_none (trim_L0 hn hn0) (by decide) (by decide), if_neg (by simp), if_neg (by simp), if_neg (by simp), if_neg (by
      intro e
      have := congrArg (fun l : Bs => l.headD 0) e
      simp [fenceL] at this), if_pos (by simp [Lib.hasPrefix, barsL, List.isPrefixOf])]
    have hTb2 := hTb
    unfold tL0 at hTb2
    unfold tableR tabE tabF tabR endN
    rw [hk0, hTb2, t1]
    simp [evenB]
  -- the figure
  have s2 : ∀ (no : Int) (rest : List Ln), ∃ b, stepR ⟨⟨#[102]⟩, no, ⟨(tL2 s n).toArray⟩⟩ rest = (0, [b], []) ∧ b.label = ⟨n.toArray⟩ ∧ b.text = ⟨s.toArray⟩ ∧ b.spans = [txt s] := by
    intro no rest
    obtain ⟨t1, t2, t3⟩ := titled_label ⟨#[102]⟩ no hT hsp hs0 ⟨7, 0, false, ⟨#[]⟩, ⟨s.toArray⟩, [], [], ⟨#[]⟩, 0⟩
    refine ⟨titledB ⟨7, 0, false, ⟨#[]⟩, ⟨s.toArray⟩, [], [], ⟨#[]⟩, 0⟩ ⟨#[102]⟩ no ⟨(s ++ 32 :: 35 :: n).toArray⟩, ?_, t2, rfl, t3⟩
    rw [step_of _ _ _ (trim_L2 hn hn0)]
    unfold tL2
    rw [command_fig (head_small hs hs0)]
    simp only
    unfold cmdR
    rw [if_pos rfl, if_neg (by simp [hs0])]
    unfold figR
    rw [fig_words hs hhd]
    simp only
    rw [t1]
  -- the title
  have s3 : ∀ (no : Int) (rest : List Ln), ∃ c d, stepR ⟨⟨#[102]⟩, no, ⟨(tL3 k s n).toArray⟩⟩ rest = (0, [c], [d]) ∧ c.label = ⟨#[]⟩ ∧ c.level = k ∧ d.fault = 10 ∧ d.text = ⟨(35 :: 49 :: n).toArray⟩ := by
    intro no rest
    obtain ⟨u1, u2, _⟩ := head_none h1 h3 hs hs0 hn hn0
    have hp : (s ++ 32 :: 35 :: 49 :: n).all plainC = true := by
      rw [List.all_append, hsp, List.all_cons, List.all_cons, List.all_cons, small_plain hn]; decide
    obtain ⟨p1, p2⟩ := plain_word hp (by simp)
    have hcm : commandB (tL3 k s n) = none := by
      obtain ⟨q, hq⟩ : ∃ q, k = q + 1 := ⟨k - 1, by omega⟩
      unfold tL3 ti
      rw [hq, List.replicate_succ, List.cons_append]
      exact command_none (by decide)
    refine ⟨titledB ⟨1, k, false, ⟨#[]⟩, ⟨#[]⟩, [], [], ⟨#[]⟩, 0⟩ ⟨#[102]⟩ no ⟨(s ++ 32 :: 35 :: 49 :: n).toArray⟩, ⟨⟨#[102]⟩, no, 10, ⟨(35 :: 49 :: n).toArray⟩⟩, ?_, ?_, rfl, rfl, rfl⟩
    · have u0 : trim (tL3 k s n) = tL3 k s n := u1
      rw [step_of _ _ _ u0, hcm]
      simp only
      unfold readR
      rw [strV_data]
      unfold tL3
      rw [u2, if_pos (by simp; omega)]
      unfold headR
      rw [strV_data, u2]
      simp only
      congr 2
      unfold titledD titledW
      rw [strV_data, title_none hn]
      simp only
      rw [if_neg (by simp), p1]
      rfl
    · unfold titledB
      simp only [strV_data, title_none hn]
  obtain ⟨a, ea, a1, a2⟩ := s0 [⟨⟨#[102]⟩, 2, ⟨barsL.toArray⟩⟩, ⟨⟨#[102]⟩, 3, ⟨(tL2 s n).toArray⟩⟩, ⟨⟨#[102]⟩, 4, ⟨(tL3 k s n).toArray⟩⟩] ⟨_, _, rfl, by decide⟩
  obtain ⟨b, eb, b1, b2, b3⟩ := s2 3 [⟨⟨#[102]⟩, 4, ⟨(tL3 k s n).toArray⟩⟩]
  obtain ⟨c, d, ec, c1, c2, d1, d2⟩ := s3 4 []
  refine ⟨a, b, c, d, ?_, ?_, a1, a2, b1, b2, b3, c1, c2, d1, d2⟩
  · show blocksOf (⟨⟨#[102]⟩, 1, ⟨(tL0 s n).toArray⟩⟩ :: [⟨⟨#[102]⟩, 2, ⟨barsL.toArray⟩⟩, ⟨⟨#[102]⟩, 3, ⟨(tL2 s n).toArray⟩⟩, ⟨⟨#[102]⟩, 4, ⟨(tL3 k s n).toArray⟩⟩]) = _
    rw [blocksOf_cons, ea]
    show [a] ++ blocksOf (⟨⟨#[102]⟩, 3, ⟨(tL2 s n).toArray⟩⟩ :: [⟨⟨#[102]⟩, 4, ⟨(tL3 k s n).toArray⟩⟩]) = _
    rw [blocksOf_cons, eb]
    show [a] ++ ([b] ++ blocksOf (⟨⟨#[102]⟩, 4, ⟨(tL3 k s n).toArray⟩⟩ :: [])) = _
    rw [blocksOf_cons, ec]
    rfl
  · show diagsOf (⟨⟨#[102]⟩, 1, ⟨(tL0 s n).toArray⟩⟩ :: [⟨⟨#[102]⟩, 2, ⟨barsL.toArray⟩⟩, ⟨⟨#[102]⟩, 3, ⟨(tL2 s n).toArray⟩⟩, ⟨⟨#[102]⟩, 4, ⟨(tL3 k s n).toArray⟩⟩]) = _
    rw [diagsOf_cons, ea]
    show [] ++ diagsOf (⟨⟨#[102]⟩, 3, ⟨(tL2 s n).toArray⟩⟩ :: [⟨⟨#[102]⟩, 4, ⟨(tL3 k s n).toArray⟩⟩]) = _
    rw [diagsOf_cons, eb]
    show [] ++ ([] ++ diagsOf (⟨⟨#[102]⟩, 4, ⟨(tL3 k s n).toArray⟩⟩ :: [])) = _
    rw [diagsOf_cons, ec]
    rfl
end Go.Proofs.YtcjmfjccjhdgjaaGreatDoor
namespace Go.Bd
open Go.RowKit
/-- the letter of a number -/
def letter (x : Int) : UInt8 := UInt8.ofNat (97 + (x % 26).toNat)
theorem letter_nat (x : Int) : ((letter x).toNat : Int) = 97 + x % 26 := by
  have h1 : 0 ≤ x % 26 := Int.emod_nonneg _ (by decide)
  have h2 : x % 26 < 26 := Int.emod_lt_of_pos _ (by decide)
  unfold letter
  rw [UInt8.toNat_ofNat']
  omega
theorem letter_small (x : Int) : (97 ≤ letter x && letter x ≤ 122) = true := by
  have h1 : 0 ≤ x % 26 := Int.emod_nonneg _ (by decide)
  have h2 : x % 26 < 26 := Int.emod_lt_of_pos _ (by decide)
  have h := letter_nat x
  simp only [Bool.and_eq_true, decide_eq_true_eq, UInt8.le_iff_toNat_le]
  have e1 : (97 : UInt8).toNat = 97 := rfl
  have e2 : (122 : UInt8).toNat = 122 := rfl
  omega
theorem letters_small (xs : List Int) : small (xs.map letter) = true := by
  unfold small
  rw [List.all_map, List.all_eq_true]
  exact fun x _ => letter_small x
def alphaB : ByteArray := ⟨#[97, 98, 99, 100, 101, 102, 103, 104, 105, 106, 107, 108, 109, 110, 111, 112, 113, 114, 115, 116, 117, 118, 119, 120, 121, 122]⟩
theorem alpha_all : ∀ q : Fin 26, alphaB.extract q.1 (q.1 + 1) = ⟨#[UInt8.ofNat (97 + q.1)]⟩ := by decide +kernel
theorem alpha_at {x : Int} {q : Nat} (h : x % 26 = (q : Int)) (hq : q < 26) : alphaB.extract q (q + 1) = ⟨#[letter x]⟩ := by
  have := alpha_all ⟨q, hq⟩
  rw [this]
  unfold letter
  rw [h]; rfl
def wordT (xs : List Int) : ByteArray := ⟨(xs.map letter).toArray⟩
theorem wordT_data (xs : List Int) : (wordT xs).data.toList = xs.map letter := by simp [wordT]
theorem wordT_size (xs : List Int) : (wordT xs).size = xs.length := by unfold wordT; rw [size_mk, List.length_map]
theorem wordT_snoc {xs : List Int} {k : Nat} {x : Int} (h : xs[k]? = some x) : wordT (xs.take (k + 1)) = wordT (xs.take k) ++ ⟨#[letter x]⟩ := by
  unfold wordT
  rw [List.take_add_one, h]
  have e : ∀ a b : List UInt8, (⟨(a ++ b).toArray⟩ : ByteArray) = ⟨a.toArray⟩ ++ ⟨b.toArray⟩ := fun a b => by
    have : ((⟨a.toArray⟩ : ByteArray) ++ ⟨b.toArray⟩).data.toList = a ++ b := by simp
    exact (mk_of this).symm
  rw [Option.toList_some, List.map_append, e]
  rfl
theorem signs_all : ∀ q : Fin 3, (⟨#[61, 61, 61, 61]⟩ : ByteArray).extract 0 (q.1 + 1) = ⟨(ti (q.1 + 1)).toArray⟩ := by decide +kernel
end Go.Bd
namespace Go.Proofs.YtcjmfjccjhdgjaaGreatDoor
open Go.RowKit Go.Bd
theorem say_txt (s : Bs) : sayL [txt s] = s := by simp [sayL, say1, txt]
set_option maxRecDepth 100000 in
set_option maxHeartbeats 16000000 in
theorem blocksTitles_true (v0 : Value) (xs : List Int) (v1 : Value) (ys : List Int) (x2 : Int) (m : Int) (w : World) (hm : Glob m w) (hR : Rd w w.heap.size v0 (xs.map (Value.int .u8))) (hwf : ∀ x ∈ xs, (Lit.int .u8 x).wf = true) (hl : xs.length ≤ 140737488355328) (hR1 : Rd w w.heap.size v1 (ys.map (Value.int .u8))) (hwf1 : ∀ x ∈ ys, (Lit.int .u8 x).wf = true) (hl1 : ys.length ≤ 140737488355328) (hwf2 : (Lit.int .u8 x2).wf = true) :
    Calls Tryz.prog 8 #[v0, v1, .int .u8 x2] w fun e w' => e = .returned (.bool true) ∧ Below w.heap.size w w' := by
  obtain ⟨A, c, rfl, hcl, f⟩ := hR.form
  obtain ⟨A1, c1, rfl, hcl1, f1⟩ := hR1.form
  rw [List.length_map] at hcl hcl1 ⊢
  rw [List.length_map]
  have F : Hid (∀ (j : Nat) x, xs[j]? = some x → ∃ b off, A = some ⟨b, off, none⟩ ∧ b < w.heap.size ∧ w.cell? ⟨b, off + j, none⟩ = some (.int .u8 x)) := fun j x hj => by
    obtain ⟨b, off, h1, h2, h3⟩ := f j (.int .u8 x) (by rw [List.getElem?_map, hj]; rfl)
    exact ⟨b, off, h1, by omega, h3⟩
  have F1 : Hid (∀ (j : Nat) x, ys[j]? = some x → ∃ b off, A1 = some ⟨b, off, none⟩ ∧ b < w.heap.size ∧ w.cell? ⟨b, off + j, none⟩ = some (.int .u8 x)) := fun j x hj => by
    obtain ⟨b, off, h1, h2, h3⟩ := f1 j (.int .u8 x) (by rw [List.getElem?_map, hj]; rfl)
    exact ⟨b, off, h1, by omega, h3⟩
  have HW : Hid (∀ x ∈ xs, 0 ≤ x ∧ x ≤ 255) := fun x hx => by
    obtain ⟨h1, h2⟩ := bounds_u8 (hwf x hx)
    exact ⟨h1, by omega⟩
  have HW1 : Hid (∀ x ∈ ys, 0 ≤ x ∧ x ≤ 255) := fun x hx => by
    obtain ⟨h1, h2⟩ := bounds_u8 (hwf1 x hx)
    exact ⟨h1, by omega⟩
  obtain ⟨hx20, hx21⟩ := bounds_u8 hwf2
  clear hR hR1 f f1 hwf hwf1 hwf2
  obtain ⟨n, hn⟩ : ∃ n, xs.length = n := ⟨_, rfl⟩
  obtain ⟨q, hq⟩ : ∃ q, ys.length = q := ⟨_, rfl⟩
  rw [hn] at hl hcl ⊢
  rw [hq] at hl1 hcl1 ⊢
  have CA := alive_any hm
  have HM := Lib.hid hm
  have HN := Lib.hid (And.intro hn hq)
  clear hm hn hq
  go_enter Tryz.func8, Tryz.ntmps8
  go_wp2_with fail
  refine CA.mono ?_
  clear CA
  rintro e w1 ⟨rfl, hb1⟩
  have HB1 := Lib.hid hb1
  have CA := alive_any (HM.out.below hb1)
  clear hb1
  by_cases hgo : (n = 0 ∨ 50 < n) ∨ (q = 0 ∨ 50 < q)
  · have t0 : ((n : Int) == 0) = decide (n = 0) := by rw [Bool.eq_iff_iff]; simp
    by_cases c0 : n = 0
    · subst c0
      go_wp2_with fail
      refine CA.mono ?_
      rintro e w2 ⟨rfl, hb2⟩
      go_wp2
      go_ret
      exact ⟨rfl, HB1.out.trans (hb2.mono HB1.out.size)⟩
    have c0b : ((n : Int) == 0) = false := by simp; omega
    have c0c : ¬ (n : Int) = 0 := by omega
    by_cases c1' : 50 < n
    · have c1b : decide (50 < (n : Int)) = true := decide_eq_true (by omega)
      go_wp2_with fail
      refine CA.mono ?_
      rintro e w2 ⟨rfl, hb2⟩
      go_wp2
      go_ret
      exact ⟨rfl, HB1.out.trans (hb2.mono HB1.out.size)⟩
    have c1b : decide (50 < (n : Int)) = false := decide_eq_false (by omega)
    by_cases c2 : q = 0
    · subst c2
      go_wp2_with fail
      refine CA.mono ?_
      rintro e w2 ⟨rfl, hb2⟩
      go_wp2
      go_ret
      exact ⟨rfl, HB1.out.trans (hb2.mono HB1.out.size)⟩
    have c2b : ((q : Int) == 0) = false := by simp; omega
    have c2c : ¬ (q : Int) = 0 := by omega
    have c3 : 50 < q := by omega
    have c3b : decide (50 < (q : Int)) = true := decide_eq_true (by omega)
    go_wp2_with fail
    refine CA.mono ?_
    rintro e w2 ⟨rfl, hb2⟩
    go_wp2
    go_ret
    exact ⟨rfl, HB1.out.trans (hb2.mono HB1.out.size)⟩
  have c0b : ((n : Int) == 0) = false := by simp; omega
  have c0c : ¬ (n : Int) = 0 := by omega
  have c1b : decide (50 < (n : Int)) = false := decide_eq_false (by omega)
  have c2b : ((q : Int) == 0) = false := by simp; omega
  have c2c : ¬ (q : Int) = 0 := by omega
  have c3b : decide (50 < (q : Int)) = false := decide_eq_false (by omega)
  have hn50 : n ≤ 50 := by omega
  have hq50 : q ≤ 50 := by omega
  have hn1 : 1 ≤ n := by omega
  have hq1 : 1 ≤ q := by omega
  clear CA hgo
  go_wp2
  clear c0b c0c c1b c2b c2c c3b
  go_loopg [7, 8] n (fun r vs vi wr => ∃ k : Nat, k + r = n ∧ vi = .int .i64 (k : Int) ∧ vs = .string (wordT (xs.take k)) ∧ Hid (Below w1.heap.size w1 wr))
  case atStart => exact ⟨0, by omega, rfl, by rw [List.take_zero]; rfl, Below.refl _ _⟩
  case round =>
    obtain ⟨k, hk, rfl, rfl, HK⟩ := hrel
    by_cases hlt : k < n
    · obtain ⟨x, hx⟩ : ∃ x, xs[k]? = some x := ⟨_, List.getElem?_eq_getElem (by have := HN.out.1; omega)⟩
      obtain ⟨hx0, hx1⟩ := HW.out x (List.mem_of_getElem? hx)
      obtain ⟨b, off, rfl, hb, hc0⟩ := F.out k x hx
      replace hc0 := ((HB1.out.trans (HK.out.mono HB1.out.size)).cell (p := ⟨b, off + k, none⟩) hb).trans hc0
      have hbr : b < wr.heap.size := by have := (HB1.out.trans (HK.out.mono HB1.out.size)).size; omega
      obtain ⟨z, hz⟩ : ∃ z : Nat, x % 26 = (z : Int) := ⟨(x % 26).toNat, by omega⟩
      have hz26 : z < 26 := by omega
      have hsn := wordT_snoc hx
      rw [← alpha_at hz hz26] at hsn
      have HSN := Lib.hid hsn
      obtain ⟨sk, hsk⟩ : ∃ sk, wordT (xs.take k) = sk := ⟨_, rfl⟩
      rw [hsk] at HSN ⊢
      have hskl : sk.size ≤ 50 := by rw [← hsk, wordT_size, List.length_take]; omega
      have hz0 : (0 : Int) ≤ (z : Int) := by omega
      have hz1 : (z : Int) ≤ (z : Int) + 1 := by omega
      have hz2 : (z : Int) + 1 ≤ 26 := by omega
      clear hx hsn hsk
      go_wp2
      go_quiet (fail)
      go_wp2
      go_roundg (gk - 1)
      case measure => omega
      case rel => exact ⟨k + 1, by omega, by go_num, by rw [HSN.out]; rfl, Go.below_drewN HK.out _⟩
    obtain rfl : k = n := by omega
    rw [List.take_of_length_le (by have := HN.out.1; omega)]
    obtain ⟨sb, hsb⟩ : ∃ sb, wordT xs = sb := ⟨_, rfl⟩
    rw [hsb]
    have HSB := Lib.hid hsb
    clear hsb
    have hB2 := HB1.out.trans (HK.out.mono HB1.out.size)
    have HB2 := Lib.hid hB2
    clear hB2 HK
    go_wp2
    obtain ⟨w2, hw2⟩ : ∃ x, x = wr := ⟨_, rfl⟩
    subst hw2
    go_loopg [9, 10] q (fun r vs vi wr => ∃ k : Nat, k + r = q ∧ vi = .int .i64 (k : Int) ∧ vs = .string (wordT (ys.take k)) ∧ Hid (Below w2.heap.size w2 wr))
    case atStart => exact ⟨0, by omega, rfl, by rw [List.take_zero]; rfl, Below.refl _ _⟩
    case round =>
      obtain ⟨j, hj, rfl, rfl, HK⟩ := hrel
      by_cases hlt2 : j < q
      · obtain ⟨x, hx⟩ : ∃ x, ys[j]? = some x := ⟨_, List.getElem?_eq_getElem (by have := HN.out.2; omega)⟩
        obtain ⟨hx0, hx1⟩ := HW1.out x (List.mem_of_getElem? hx)
        obtain ⟨b, off, rfl, hb, hc0⟩ := F1.out j x hx
        replace hc0 := ((HB2.out.trans (HK.out.mono HB2.out.size)).cell (p := ⟨b, off + j, none⟩) hb).trans hc0
        have hbr : b < wr.heap.size := by have := (HB2.out.trans (HK.out.mono HB2.out.size)).size; omega
        obtain ⟨z, hz⟩ : ∃ z : Nat, x % 26 = (z : Int) := ⟨(x % 26).toNat, by omega⟩
        have hz26 : z < 26 := by omega
        have hsn := wordT_snoc hx
        rw [← alpha_at hz hz26] at hsn
        have HSN := Lib.hid hsn
        obtain ⟨sk, hsk⟩ : ∃ sk, wordT (ys.take j) = sk := ⟨_, rfl⟩
        rw [hsk] at HSN ⊢
        have hskl : sk.size ≤ 50 := by rw [← hsk, wordT_size, List.length_take]; omega
        have hz0 : (0 : Int) ≤ (z : Int) := by omega
        have hz1 : (z : Int) ≤ (z : Int) + 1 := by omega
        have hz2 : (z : Int) + 1 ≤ 26 := by omega
        clear hx hsn hsk
        go_wp2
        go_quiet (fail)
        go_wp2
        go_roundg (gk - 1)
        case measure => omega
        case rel => exact ⟨j + 1, by omega, by go_num, by rw [HSN.out]; rfl, Go.below_drewN HK.out _⟩
      obtain rfl : j = q := by omega
      rw [List.take_of_length_le (by have := HN.out.2; omega)]
      obtain ⟨nb, hnb⟩ : ∃ nb, wordT ys = nb := ⟨_, rfl⟩
      rw [hnb]
      have HNB := Lib.hid hnb
      clear hnb
      have hB3 := HB2.out.trans (HK.out.mono HB2.out.size)
      have HB3 := Lib.hid hB3
      clear hB3 HK
      -- depth
      have hd0 : 0 ≤ x2 % 3 := by omega
      have hd3 : x2 % 3 < 3 := by omega
      obtain ⟨dq, hdq⟩ : ∃ dq : Nat, x2 % 3 = (dq : Int) := ⟨(x2 % 3).toNat, by omega⟩
      have hdq3 : dq < 3 := by omega
      have hS : sb.data.toList = xs.map letter := by rw [← HSB.out, wordT_data]
      have hN : nb.data.toList = ys.map letter := by rw [← HNB.out, wordT_data]
      have hSs : small sb.data.toList = true := by rw [hS]; exact letters_small xs
      have hNs : small nb.data.toList = true := by rw [hN]; exact letters_small ys
      have hsz : sb.size = k := by rw [← HSB.out, wordT_size]; exact HN.out.1
      have hnz : nb.size = j := by rw [← HNB.out, wordT_size]; exact HN.out.2
      have hS0 : sb.data.toList ≠ [] := fun e => by rw [size_list, e] at hsz; simp at hsz; omega
      have hN0 : nb.data.toList ≠ [] := fun e => by rw [size_list, e] at hnz; simp at hnz; omega
      have hNl : nb.data.toList.length ≤ 60 := by rw [← size_list]; omega
      clear hS hN
      have hTi : (⟨#[61, 61, 61, 61]⟩ : ByteArray).extract 0 (dq + 1) = ⟨(ti (dq + 1)).toArray⟩ := signs_all ⟨dq, hdq3⟩
      have cat : ∀ a b : ByteArray, (a ++ b).data.toList = a.data.toList ++ b.data.toList := fun a b => by simp
      obtain ⟨hd, hhd⟩ : ∃ hd, ((⟨#[61, 61, 61, 61]⟩ : ByteArray).extract 0 (dq + 1) ++ ⟨#[32]⟩) ++ sb = hd := ⟨_, rfl⟩
      have hdd : hd.data.toList = ti (dq + 1) ++ 32 :: sb.data.toList := by rw [← hhd, cat, cat, hTi, strV_data]; simp
      have tis : (ti (dq + 1)).length = dq + 1 := by unfold ti; simp
      have hdz : hd.size ≤ 60 := by rw [size_list, hdd, List.length_append, tis, List.length_cons, ← size_list]; omega
      have q0 : (0 : Int) ≤ (dq : Int) + 1 := by omega
      have q1 : (dq : Int) + 1 ≤ 4 := by omega
      have k1 : 1 ≤ dq + 1 := by omega
      have k3 : dq + 1 ≤ 3 := by omega
      -- three titles
      have d1 : ((hd ++ ⟨#[32, 35]⟩) ++ nb).data.toList = ti (dq + 1) ++ 32 :: (sb.data.toList ++ 32 :: 35 :: nb.data.toList) := by rw [cat, cat, hdd]; simp
      have d3 : ((hd ++ ⟨#[32, 35, 49]⟩) ++ nb).data.toList = ti (dq + 1) ++ 32 :: (sb.data.toList ++ 32 :: 35 :: 49 :: nb.data.toList) := by rw [cat, cat, hdd]; simp
      have r3 : strV (sb.data.toList ++ 32 :: 35 :: 49 :: nb.data.toList) = .string ((sb ++ ⟨#[32, 35, 49]⟩) ++ nb) := (strV_of (by rw [cat, cat]; simp)).symm
      have rS : strV sb.data.toList = .string sb := (strV_of rfl).symm
      have rN : strV nb.data.toList = .string nb := (strV_of rfl).symm
      have z1 : ((hd ++ ⟨#[32, 35]⟩) ++ nb).size ≤ 100000 := by rw [size_list, cat, cat, List.length_append, List.length_append, ← size_list, ← size_list, show (⟨#[32, 35]⟩ : ByteArray).size = 2 from rfl, ← size_list]; omega
      have z3 : ((hd ++ ⟨#[32, 35, 49]⟩) ++ nb).size ≤ 100000 := by rw [size_list, cat, cat, List.length_append, List.length_append, ← size_list, ← size_list, show (⟨#[32, 35, 49]⟩ : ByteArray).size = 3 from rfl, ← size_list]; omega
      have ek : ((dq + 1 : Nat) : Int) = (dq : Int) + 1 := by omega
      have C1 := fun W (hW : Glob m W) => head_any ((hd ++ ⟨#[32, 35]⟩) ++ nb) W z1 hW.2
      have C2 := fun W (hW : Glob m W) => head_any hd W (by omega) hW.2
      have C3 := fun W (hW : Glob m W) => head_any ((hd ++ ⟨#[32, 35, 49]⟩) ++ nb) W z3 hW.2
      rw [d1, head_label k1 k3 hSs hS0 hNs hN0 hNl] at C1
      rw [hdd, head_plain k1 k3 hSs hS0] at C2
      rw [d3, (head_none k1 k3 hSs hS0 hNs hN0).2.2] at C3
      simp only [rS, rN, r3, ek] at C1 C2 C3
      unfold strV at C2 C3
      have L1 := Lib.hid (And.intro C1 (And.intro C2 C3))
      have HT := Lib.hid (titles_law k1 k3 hSs hS0 hNs hN0 hNl)
      have hpl := Lib.hid (And.intro hsz hnz)
      have cc : ∀ a b : ByteArray, a.data.toList = b.data.toList → a = b := fun a b h => ba_ext h
      have T0 : ((⟨#[124, 61, 61, 61]⟩ : ByteArray) ++ sb ++ ⟨#[32, 35]⟩) ++ nb = ⟨(tL0 sb.data.toList nb.data.toList).toArray⟩ := ba_ext (by rw [cat, cat, cat, strV_data]; simp [tL0])
      have T2 : ((((⟨#[33, 102, 105, 103, 32]⟩ : ByteArray) ++ sb ++ ⟨#[32]⟩) ++ sb) ++ ⟨#[32, 35]⟩) ++ nb = ⟨(tL2 sb.data.toList nb.data.toList).toArray⟩ := ba_ext (by rw [cat, cat, cat, cat, cat, strV_data]; simp [tL2])
      have T3 : ((hd ++ ⟨#[32, 35, 49]⟩) ++ nb) = ⟨(tL3 (dq + 1) sb.data.toList nb.data.toList).toArray⟩ := ba_ext (by rw [d3, strV_data]; rfl)
      have HTT := Lib.hid (And.intro T0 (And.intro T2 T3))
      have G3 := HM.out.below HB3.out
      have CA1 := L1.out.1 wr G3
      have HHD := Lib.hid hhd
      clear hSs hNs hS0 hN0 hNl hTi hdd d1 d3 r3 rS rN C1 C2 C3 T0 T2 T3 cc G3 hhd z1 z3 k1 k3 HSB HNB F F1 HW HW1
      clear ek
      go_wp2_with fail
      rw [HHD.out]
      refine CA1.mono ?_
      clear CA1
      rintro e w4 ⟨rfl, hb4⟩
      have hB4 := HB3.out.trans (hb4.mono HB3.out.size)
      have CA2 := L1.out.2.1 w4 (HM.out.below hB4)
      have HB4 := Lib.hid hB4
      clear hb4 hB4
      go_wp2_with fail
      refine CA2.mono ?_
      clear CA2
      rintro e w5 ⟨rfl, hb5⟩
      have hB5 := HB4.out.trans (hb5.mono HB4.out.size)
      have CA3 := L1.out.2.2 w5 (HM.out.below hB5)
      have HB5 := Lib.hid hB5
      clear hb5 hB5
      go_wp2_with fail
      refine CA3.mono ?_
      clear CA3
      rintro e w6 ⟨rfl, hb6⟩
      have hB6 := HB5.out.trans (hb6.mono HB5.out.size)
      have HB6 := Lib.hid hB6
      clear hb6 hB6
      obtain ⟨xt, hxt⟩ : ∃ xt : List ByteArray, [⟨(tL0 sb.data.toList nb.data.toList).toArray⟩, ⟨barsL.toArray⟩, ⟨(tL2 sb.data.toList nb.data.toList).toArray⟩, ⟨(tL3 (dq + 1) sb.data.toList nb.data.toList).toArray⟩] = xt := ⟨_, rfl⟩
      have hxl : xt.length = 4 := by rw [← hxt]; rfl
      have hcs : (#[.string (((⟨#[124, 61, 61, 61]⟩ : ByteArray) ++ sb ++ ⟨#[32, 35]⟩) ++ nb), .string ⟨#[124, 61, 61, 61]⟩, .string (((((⟨#[33, 102, 105, 103, 32]⟩ : ByteArray) ++ sb ++ ⟨#[32]⟩) ++ sb) ++ ⟨#[32, 35]⟩) ++ nb), .string ((hd ++ ⟨#[32, 35, 49]⟩) ++ nb)] : Array Value) = (xt.map Value.string).toArray := by
        rw [HTT.out.1, HTT.out.2.1, HTT.out.2.2, ← hxt]
        rfl
      have RX := lit_rd w6 xt _ hcs 4 hxl (by unfold maxLen; omega)
      have hwx : wtT xt ≤ 100000 := by
        have l0 : (⟨(tL0 sb.data.toList nb.data.toList).toArray⟩ : ByteArray).size ≤ 200 := by rw [size_mk]; unfold tL0; have h1 := hpl.out.1; have h2 := hpl.out.2; rw [size_list] at h1 h2; simp only [List.length_cons, List.length_append]; omega
        have l2 : (⟨(tL2 sb.data.toList nb.data.toList).toArray⟩ : ByteArray).size ≤ 200 := by rw [size_mk]; unfold tL2; have h1 := hpl.out.1; have h2 := hpl.out.2; rw [size_list] at h1 h2; simp only [List.length_cons, List.length_append]; omega
        have l3 : (⟨(tL3 (dq + 1) sb.data.toList nb.data.toList).toArray⟩ : ByteArray).size ≤ 200 := by rw [size_mk]; unfold tL3; have h1 := hpl.out.1; have h2 := hpl.out.2; rw [size_list] at h1 h2; simp only [List.length_cons, List.length_append]; omega
        have l1 : (⟨barsL.toArray⟩ : ByteArray).size = 4 := rfl
        rw [← hxt]
        simp only [wtT, List.map_cons, List.map_nil, List.sum_cons, List.sum_nil, List.length_cons, List.length_nil, l1]
        omega
      have CO := of_any RX (Nat.le_refl _) (by omega)
      have HXT := Lib.hid (And.intro hxt hwx)
      clear RX hcs hxt hwx
      go_wp2_with fail
      refine CO.mono ?_
      clear CO
      rintro e w7 ⟨lv, rfl, ho, hb7⟩
      have hb67 := ((Below.refl w6.heap.size w6).alloc (Nat.le_refl _) (.cells #[.string (((⟨#[124, 61, 61, 61]⟩ : ByteArray) ++ sb ++ ⟨#[32, 35]⟩) ++ nb), .string ⟨#[124, 61, 61, 61]⟩, .string (((((⟨#[33, 102, 105, 103, 32]⟩ : ByteArray) ++ sb ++ ⟨#[32]⟩) ++ sb) ++ ⟨#[32, 35]⟩) ++ nb), .string ((hd ++ ⟨#[32, 35, 49]⟩) ++ nb)] 9)).trans (hb7.mono (by simp))
      have hB7 := HB6.out.trans (hb67.mono HB6.out.size)
      have CP := parsed_any (xs := xt) (HM.out.below hB7) HXT.out.2 ho hb7
      have HB7 := Lib.hid hB7
      clear ho hb7 hb67 hB7
      go_wp2_with fail
      refine CP.mono ?_
      clear CP
      rintro e w8 ⟨⟨O, F1, rb, lv2, bv, dv, rfl, hr, _, _⟩, hb8⟩
      have hB8 := HB7.out.trans (hb8.mono HB7.out.size)
      obtain ⟨BA, bc, rfl⟩ := hr.bform
      obtain ⟨DA, dc, rfl⟩ := hr.dform
      obtain ⟨ba, bb, bc', bd, h1, h2, a1, a2, b1, b2, b3, e1, e2, g1, g2⟩ := HT.out
      rw [HXT.out.1] at h1 h2
      rw [h1, h2] at hr ⊢
      obtain ⟨ga, sA, sc, _, _, rfl, _, fa, _, _, _, _, p3, _, p5, _, _, _⟩ := hr.blk_at (j := 0) (x := ba) rfl
      obtain ⟨gb, sB, sd, _, _, hgb, _, fb, _, _, _, _, q3, q4, q5, _, _, _⟩ := hr.blk_at (j := 1) (x := bb) rfl
      obtain ⟨gc, _, _, _, _, hgc, _, _, _, _, r1, _, r3, _, _, _, _, _⟩ := hr.blk_at (j := 2) (x := bc') rfl
      obtain ⟨gd, rfl, _, _, _, d2, d3⟩ := hr.dg_at (j := 0) (x := bd) rfl
      obtain rfl : ga = gb := by
        injection hgb with e
        injection e
      obtain rfl : ga = gc := by
        injection hgc with e
        injection e
      have sl : ∀ b, F1 b → b < w8.heap.size := hr.ltF
      rw [a2] at fa p5
      rw [b3] at fb q5
      have E1 : (⟨sb.data.toList.toArray⟩ : ByteArray) = sb := ba_ext (by simp)
      have E2 : (⟨nb.data.toList.toArray⟩ : ByteArray) = nb := ba_ext (by simp)
      rw [a1, E2] at p3
      rw [b1, E2] at q3
      rw [b2, E1] at q4
      rw [e1] at r3
      rw [e2] at r1
      rw [g1] at d2
      have ed : bd.text = (⟨#[35, 49]⟩ : ByteArray) ++ nb := by rw [g2]; exact ba_ext (by simp)
      rw [ed] at d3
      have ek : ((dq + 1 : Nat) : Int) = (dq : Int) + 1 := by omega
      rw [ek] at r1
      have fa' : Forest w8 (· < w8.heap.size) (.slice sA 1 sc) [txt sb.data.toList] := fa.chg (Chg.refl w8 (fun _ => False)) sl (fun _ _ h => h)
      have fb' : Forest w8 (· < w8.heap.size) (.slice sB 1 sd) [txt sb.data.toList] := fb.chg (Chg.refl w8 (fun _ => False)) sl (fun _ _ h => h)
      have hsl : sb.data.toList.length ≤ 50 := by rw [← size_list]; have := hpl.out.1; omega
      have many : manyL [txt sb.data.toList] ≤ 1000000000 := by simp [manyL, many1, txt]
      have P1 := Plain_any [txt sb.data.toList] many (by rw [say_txt]; omega) _ w8 fa'
      have P2 := fun W (hW : Below w8.heap.size w8 W) => Plain_any [txt sb.data.toList] many (by rw [say_txt]; omega) _ W ((fb'.under hW (fun _ h => h)).chg (Chg.refl W (fun _ => False)) (fun b h => Nat.lt_of_lt_of_le h hW.size) (fun _ _ h => h))
      rw [say_txt] at P1 P2
      rw [E1] at P1 P2
      simp only [List.length_cons, List.length_nil, Nat.one_mul, Nat.zero_mul, Nat.zero_add] at p3 p5 q3 q4 q5 r1 r3 d2 d3 ⊢
      have H8 := Lib.hid hB8
      have HP2 := Lib.hid P2
      clear hr hb8 hB8 h1 h2 a1 a2 b1 b2 b3 e1 e2 g1 g2 ed ek fa fb fa' fb' hgb hgc sl P2 many E1 E2
      go_wp2_with fail
      refine P1.mono ?_
      clear P1
      rintro e w9 ⟨rfl, hb9⟩
      have hl8 := fun {b i : Nat} {v : Value} (h : w8.cell? ⟨b, i, none⟩ = some v) => (hb9.cell (p := ⟨b, i, none⟩) (World.block_lt_of_cell? _ _ h)).trans h
      have P2 := HP2.out w9 hb9
      replace p3 := hl8 p3
      replace p5 := hl8 p5
      replace q3 := hl8 q3
      replace q4 := hl8 q4
      replace q5 := hl8 q5
      replace r1 := hl8 r1
      replace r3 := hl8 r3
      replace d2 := hl8 d2
      replace d3 := hl8 d3
      have H9 := Lib.hid (H8.out.trans (hb9.mono H8.out.size))
      clear hb9 hl8
      go_wp2_with fail
      refine P2.mono ?_
      clear P2
      rintro e w10 ⟨rfl, hb10⟩
      have hl9 := fun {b i : Nat} {v : Value} (h : w9.cell? ⟨b, i, none⟩ = some v) => (hb10.cell (p := ⟨b, i, none⟩) (World.block_lt_of_cell? _ _ h)).trans h
      replace p3 := hl9 p3
      replace q3 := hl9 q3
      replace q4 := hl9 q4
      replace r1 := hl9 r1
      replace r3 := hl9 r3
      replace d2 := hl9 d2
      replace d3 := hl9 d3
      have H10 := Lib.hid (H9.out.trans (hb10.mono H9.out.size))
      clear hb10 hl9 p5 q5
      go_wp2
      go_ret
      exact ⟨ret_bool (by simp), H10.out⟩
end Go.Proofs.YtcjmfjccjhdgjaaGreatDoor
namespace Go.Bd
open Go.ChangeShapes Go.WideShapes Go.RowKit
theorem addr_lit' {w : World} {a : Addr} {v : Value} (h : w.cell? (a.add 0) = some v) : ∃ b off, a = ⟨b, off, none⟩ ∧ b < w.heap.size := by
  obtain ⟨b, off, spot⟩ := a
  have e : (⟨b, off, spot⟩ : Addr).add 0 = ⟨b, off, spot⟩ := by simp [Addr.add]
  rw [e] at h
  refine ⟨b, off, ?_, World.block_lt_of_cell? w _ h⟩
  cases spot with
  | none => rfl
  | some s =>
    exfalso
    simp only [World.cell?] at h
    split at h <;> simp at h
theorem rd_of' {w : World} {a : Addr} {len cap : Nat} {V : Nat → Value} (hl : len ≤ cap) (h : ∀ i, i < len → w.cell? (a.add i) = some (V i)) : Rd w w.heap.size (.slice (some a) len cap) ((List.range len).map V) := by
  refine ⟨some a, cap, by simp, by simpa using hl, fun hn => ?_⟩
  have hn' : 0 < len := by simpa using hn
  obtain ⟨b, off, rfl, hb⟩ := addr_lit' (h 0 hn')
  refine ⟨b, off, rfl, hb, fun j u hu => ?_⟩
  have hj : j < len := by have := (List.getElem?_eq_some_iff.1 hu).1; simpa using this
  rw [List.getElem?_map, List.getElem?_range hj] at hu
  have := h j hj
  rw [Addr.add_lit] at this
  rw [this]; exact hu
theorem open_nums {H : Type} {enc : TypeId × Value → H} {P : Program} {W : World} {base : Nat} {sp : Nat → Bool} {hd : Bool} {v : Value} {d : DataW H} {p : List MemPlace} {t e : TypeId} {k : IntKind} {bs : Nat}
    (ht : P.underlying t = some (.slice e)) (he : P.underlying e = some (.int k)) (hc : P.cellsOf e = 1) (hbs : P.bytesOf e = bs) (h1 : 1 ≤ bs)
    (hv : Value.okWide P W .any base t v) (h : DataW.Trod enc P W 0 sp hd t v d p) :
    ∃ xs : List Int, Rd W W.heap.size v (xs.map (Value.int k)) ∧ (∀ x ∈ xs, (Lit.int k x).wf = true) ∧ ((∀ n ∈ d.weights P t, n ≤ reachBytes) → xs.length ≤ 140737488355328) := by
  obtain ⟨A, l, c, rfl⟩ := okWide_slice ht hv
  obtain ⟨fuel, hf⟩ := h
  rcases Deep.open_slice1 (e := e) ht hc hf with ⟨h1', h2⟩ | ⟨a, len, cap, m, n, V, D, Pl, h1', _, hl, _, hmm, h2, hx⟩
  · simp only [Value.cells, List.cons.injEq, and_true] at h1'
    rw [h1']
    exact ⟨[], Rd.nil _ _, (fun _ h => by cases h), (fun _ => Nat.zero_le _)⟩
  · simp only [Value.cells, List.cons.injEq, and_true] at h1'
    rw [h1']
    simp only [Prod.mk.injEq] at h2
    obtain ⟨rfl, _⟩ := h2
    have hlm : len ≤ m := by rw [hmm]; split <;> omega
    have each : ∀ i, i < len → ∃ z : Int, V i = .int k z ∧ (Lit.int k z).wf = true := by
      intro i hi
      obtain ⟨s, h1, _, h3⟩ := DataW.trod_int he (hx i (by omega)).2
      simp only [List.cons.injEq, and_true] at h1
      exact ⟨s, h1, h3⟩
    obtain ⟨S, hS⟩ := Deep.choose_lt each
    refine ⟨(List.range len).map S, ?_, fun x hx => ?_, fun hw => ?_⟩
    · have hr := rd_of' (w := W) (V := fun i => .int k (S i)) hl (fun i hi => by rw [(hx i (by omega)).1, (hS i hi).1])
      rw [List.map_map]
      exact hr
    · obtain ⟨i, hi, rfl⟩ := List.mem_map.1 hx
      exact (hS i (by simpa using hi)).2
    · have := hw _ (by simp only [DataW.weights, ht]; exact List.mem_cons_self ..)
      simp only [List.length_map, List.length_range, hbs] at this
      unfold reachBytes at this
      simp only [List.length_map, List.length_range]
      have h2 : (len + (m - len)) * 1 ≤ (len + (m - len)) * bs := Nat.mul_le_mul_left _ h1
      omega
end Go.Bd
namespace Go.Proofs.YtcjmfjccjhdgjaaGreatDoor.blocksTitles
open Go.ChangeShapes Go.WideShapes Go.ChangeAt Go.RowKit Go.Bd Go.WideMaps Go.WideElems
open Go.ChangeMaps (open_string shut_string)
set_option maxRecDepth 100000 in
theorem contract (H : Type) (enc : TypeId × Value → H) (W : World) (base : Nat) (args : Array Value) (ds gs : List (DataW H)) (before : List MemPlace)
    (hval : ∀ (j : Nat) t v, Tryz.f8.params[j]? = some t → args[j]? = some v → Value.okWide Tryz.prog W .any base t v)
    (hW : DataW.Whole enc Tryz.prog Tryz.f8.params.toList Rows.blocksTitlesSpec.vars false W args.toList ds gs before) (hsh : W.ShapedOpen Tryz.prog)
    (hsz : (DataW.weightsEach Tryz.prog (Tryz.f8.params.toList ++ (OpenSpec.ofChange Rows.blocksTitlesSpec).bare.plain.varTypes Tryz.prog) (ds ++ gs)).all (· ≤ reachBytes) = true) (hU : Lib.Utf8Tabs 1 2 W) :
    Calls Tryz.prog 8 args W fun e W' => ∃ v, e = .returned v ∧ Rows.blocksTitlesSpec.post enc Tryz.prog Tryz.f8 false true false false W args v W' := by
  obtain ⟨m, hm⟩ := maxLen_cell W hsh
  have hW' := hW
  obtain ⟨p, q, hA0, hV, rfl, hfz, hnd⟩ := hW
  have hA : DataW.TrodAll enc Tryz.prog W 0 (fun _ => true) true Tryz.f8.params.toList args.toList ds p := hA0
  rw [Tryz.params8] at hA hval hsz
  obtain ⟨v0, vs0, d0, ds0, p0, q0, hargs, rfl, rfl, h0, r0⟩ := trodAll_cons hA
  obtain ⟨v1, vs1, d1, ds1, p1, q1, rfl, rfl, rfl, h1, r1⟩ := trodAll_cons r0
  obtain ⟨v2, vs2, d2, ds2, p2, q2, rfl, rfl, rfl, h2, r2⟩ := trodAll_cons r1
  obtain ⟨rfl, rfl, rfl⟩ := trodAll_nil r2
  obtain rfl : args = #[v0, v1, v2] := by cases args; simp_all
  obtain ⟨rfl, rfl⟩ := trodVars_none hV
  obtain ⟨xs0, hR0, hwf0, bs0⟩ := open_nums (bs := 1) Tryz.underlying43 Tryz.underlying5 (by kernel_rfl) (by kernel_rfl) (by decide) (hval 0 43 v0 rfl rfl) h0
  have b0 := bs0 (fun n hn => by have := List.all_eq_true.1 hsz n (DataW.weights_mem_each (j := 0) rfl rfl n hn); simpa using this)
  obtain ⟨xs1, hR1, hwf1, bs1⟩ := open_nums (bs := 1) Tryz.underlying43 Tryz.underlying5 (by kernel_rfl) (by kernel_rfl) (by decide) (hval 1 43 v1 rfl rfl) h1
  have b1 := bs1 (fun n hn => by have := List.all_eq_true.1 hsz n (DataW.weights_mem_each (j := 1) rfl rfl n hn); simpa using this)
  obtain ⟨x2, rfl, rfl, rfl, wx2⟩ := open_int Tryz.underlying5 (hval 2 5 v2 rfl rfl) h2
  refine (blocksTitles_true v0 xs0 v1 xs1 x2 m W ⟨hm, hU⟩ hR0 hwf0 b0 hR1 hwf1 b1 wx2).mono fun e W' ⟨he, hg⟩ => ?_
  subst he
  exact law_post hW' hg laidOut (by rw [Tryz.params8]; intro t ht; simp at ht; rcases ht with rfl | rfl <;> exact ⟨by kernel_rfl, of_decide_eq_true (by kernel_rfl)⟩) rfl rfl (by kernel_rfl) Tryz.underlying4
theorem laid_met (os : Os) : laidMet Tryz.prog Rows.blocksTitlesRow.laid ((laidWorld os).forCall (fun _ _ => 0) ⟨#[], #[.slice none 0 0, .slice none 0 0, .int .u8 0], []⟩).memory :=
  laidMet_of_run' 8 (by kernel_rfl) (by kernel_rfl)
theorem reads (os : Os) {H : Type} (enc : TypeId × Value → H) : ∃ places, DataW.whole enc Tryz.prog ((laidWorld os).forCall (fun _ _ => 0) ⟨#[], #[.slice none 0 0, .slice none 0 0, .int .u8 0], []⟩).memory Tryz.f8.params.toList Rows.blocksTitlesSpec.vars false (#[.slice none 0 0, .slice none 0 0, .int .u8 0] : Array Value).toList 8 = some ([.nil, .nil, .lit (.int .u8 0)], [], places) :=
  ⟨[], by kernel_rfl⟩
set_option maxRecDepth 100000 in
theorem lifted (os : Os) (started : os.Started) (H : Type) (enc : TypeId × Value → H) (F : Stop.Interp) :
    ReturnsInHanded {} Tryz.checked os 8 .any ((OpenSpec.ofChange Rows.blocksTitlesSpec).preRow enc Tryz.prog Tryz.f8 Rows.blocksTitlesRow.domain false Rows.blocksTitlesRow.laid) (((OpenSpec.ofChange Rows.blocksTitlesSpec).at F).post enc Tryz.prog Tryz.f8 false true false false) := by
  obtain ⟨places, hx⟩ := reads os enc
  refine returnsInHanded_of_row (C := Tryz.checked) (s := OpenSpec.ofChange Rows.blocksTitlesSpec) own started (by kernel_rfl) Tryz.func8
    (witness_row_at (enc := enc) (C := Tryz.checked) false (laidWorld os) #[.slice none 0 0, .slice none 0 0, .int .u8 0] rfl (by kernel_rfl) (by kernel_rfl) (by kernel_rfl)
      (OpenSpec.preRow_of_cond 8 hx (by kernel_rfl) (fun k hk => by cases hk) (by kernel_rfl) (laid_met os))) ?_
  intro W base args ds gs before hval hW _ _ hsz hL hsh _
  have hL' : laidMet Tryz.prog Rows.blocksTitlesRow.laid W := hL
  exact contract H enc W base args ds gs before hval hW hsh hsz (tabs_of hL')
theorem said : Rows.BlocksTitlesSaid :=
  OpenClaim.holds_of_cond 8 Tryz.f8 rfl rfl rfl rfl rfl rfl rfl ⟨rfl, rfl, rfl, rfl, rfl⟩ rfl rfl rfl rfl rfl (by kernel_rfl) Tryz.func8 (by kernel_rfl)
    (of_decide_eq_true (by kernel_rfl)) (by unfold Func.isWrapper; first | (rw [if_pos (by decide +kernel)]; kernel_rfl) | (rw [if_neg (by decide +kernel)]; exact ⟨rfl, rfl⟩))
    (fun os started H enc _ F => by rw [OpenClaim.pre_eq_preRow]; exact lifted os started H enc F)
theorem plain (f : FuncId) (fn : Func) (hf : Tryz.pinned.checked.prog.funcNamed Tryz.f8.name = some f) (hfn : Tryz.pinned.checked.prog.funcs[f]? = some fn) :
    false = Tryz.pinned.checked.prog.looks [] ∧ ∀ (j : Nat) t, fn.params[j]? = some t → Tryz.pinned.checked.prog.wantsStandIn t = false := by
  obtain rfl : f = 8 := Option.some.inj ((show Tryz.prog.funcNamed Tryz.f8.name = some 8 by kernel_rfl).symm.trans hf) |>.symm
  obtain rfl : fn = Tryz.f8 := (Option.some.inj (Tryz.func8.symm.trans hfn)).symm
  refine ⟨by kernel_rfl, fun j t ht => ?_⟩
  rw [Tryz.params8] at ht
  have hmem := Array.mem_of_getElem? ht
  simp at hmem
  rcases hmem with rfl | rfl
  · exact (show Tryz.prog.wantsStandIn 43 = false by kernel_rfl)
  · exact (show Tryz.prog.wantsStandIn 5 = false by kernel_rfl)
theorem card : Rows.BlocksTitlesCardSaid :=
  Claim7.holds_tied_plain_at .later [] _ _ _ _ said (fun _ h => by cases h) (by kernel_rfl) (fun _ h => by cases h) blocksTitles_row_tie rfl ⟨rfl, rfl⟩ (by kernel_rfl) rfl plain (by kernel_rfl)
end Go.Proofs.YtcjmfjccjhdgjaaGreatDoor.blocksTitles
