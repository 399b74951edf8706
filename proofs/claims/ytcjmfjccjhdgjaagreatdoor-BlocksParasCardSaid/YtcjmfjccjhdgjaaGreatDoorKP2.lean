/-
  What the chapter's laws share, part 2: plain facts, memory, and walks of functions. Its conditions: those that each theorem names.
-/
import Derived.StringKeys
import Derived.Test.YtcjmfjccjhdgjaaGreatDoorShelf
import Derived.Laws.ResultCell
import Derived.Laws.Rows
import Derived.Test.YtcjmfjccjhdgjaaGreatDoorChecked
import Derived.WalkKit
import Derived.WalkSpells
import Derived.WalkLawsBesides
import Derived.Outline
import Derived.Deep.Light
import Derived.Lib.Hide
import Derived.Handy
import Derived.BigQuiet
import Derived.Deep.QuietTactic
import Derived.Deep.LoopGhost
import Derived.WalkMore
import Derived.Laws.RangeAny
import Derived.Laws.Runes
import Derived.IntWalk
import Derived.Lib.OthersKept
import Derived.Shelf.Strings.SlTrimAscii
import Derived.Lib.IndexMore
import Derived.Lib.IndexBytes
import Derived.Laws.EntriesVeiled
import Derived.Test.YtcjmfjccjhdgjaaGreatDoorSort
import Derived.Test.YtcjmfjccjhdgjaaGreatDoorKP1
set_option linter.unusedSimpArgs false
set_option linter.unusedVariables false
namespace Go.Bd
theorem index_neg {s sub : Bs} (h : Lib.index s sub < 0) : ∀ j, j ≤ s.length → Lib.occAt s sub j = false := by
  intro j
  induction j using Nat.strongRecOn with
  | _ j ih =>
    intro hj
    cases hc : Lib.occAt s sub j with
    | false => rfl
    | true =>
      have := Lib.index_first hj hc (fun k hk => ih k hk (by omega))
      omega
theorem nextAt_none {s sub : Bs} {i j : Nat} (h : nextAt s i sub = none) (hij : i ≤ j) : nextAt s j sub = none := by
  have h0 : Lib.index (s.drop i) sub < 0 := by
    unfold nextAt at h
    split at h
    · assumption
    · cases h
  have h1 := index_neg h0
  have h2 : Lib.index (s.drop j) sub = -1 := by
    refine Lib.index_none fun k hk => ?_
    have e : (s.drop j).drop k = (s.drop i).drop (min (j - i + k) (s.drop i).length) := by
      by_cases hl : j - i + k ≤ (s.drop i).length
      · rw [Nat.min_eq_left hl, List.drop_drop, List.drop_drop]; congr 1; omega
      · simp at hl
        rw [Nat.min_eq_right (by simp; omega), List.drop_eq_nil_of_le (Nat.le_refl _), List.drop_drop, List.drop_eq_nil_of_le (by omega)]
    have := h1 (min (j - i + k) (s.drop i).length) (Nat.min_le_right _ _)
    unfold Lib.occAt at this ⊢
    rw [e]; exact this
  unfold nextAt
  rw [if_pos (by omega)]
theorem index_le2 (s sub : Bs) : Lib.index s sub ≤ s.length := by
  by_cases h : Lib.index s sub < 0
  · omega
  · by_cases h2 : ∃ j, j ≤ s.length ∧ Lib.occAt s sub j = true
    · obtain ⟨j, h3, h4⟩ := h2
      have : ∀ n, ∀ j, j ≤ n → j ≤ s.length → Lib.occAt s sub j = true → Lib.index s sub ≤ s.length := by
        intro n
        induction n with
        | zero =>
          intro j h0 h1 h2
          have := Lib.index_first h1 h2 (fun k hk => by omega)
          omega
        | succ n ih =>
          intro j h0 h1 h2
          by_cases hk : ∃ k, k < j ∧ Lib.occAt s sub k = true
          · obtain ⟨k, h5, h6⟩ := hk
            exact ih k (by omega) (by omega) h6
          · have := Lib.index_first h1 h2 (fun k h5 => by
              cases h6 : Lib.occAt s sub k with
              | false => rfl
              | true => exact absurd ⟨k, h5, h6⟩ hk)
            omega
      exact this j j (Nat.le_refl _) h3 h4
    · have := Lib.index_none (fun j hj => by
        cases h6 : Lib.occAt s sub j with
        | false => rfl
        | true => exact absurd ⟨j, hj, h6⟩ h2)
      omega
def nextV (o : Option Nat) : Value := .int .i64 (match o with | some n => (n : Int) | none => -1)
theorem nextAt_le {s sub : Bs} {i n : Nat} (h : nextAt s i sub = some n) : i ≤ n := by
  unfold nextAt at h
  split at h
  · cases h
  · injection h with h; omega
theorem chg_turned {w w' : World} {b : Nat} (h : w.mapTurned w' b) : Chg w w' (· = b) := by
  obtain ⟨es, c, es', c', _, rfl⟩ := h
  refine ⟨rfl, rfl, rfl, by simp [ChangeMaps.setBlock], fun k _ hk => ?_⟩
  unfold ChangeMaps.setBlock
  simp only
  rw [Array.getElem?_setIfInBounds_ne (fun e => hk e.symm)]
theorem any_gone (gn : List Bs) (sub : Bs) : (gn.map Lit.string).any (fun x => x.sameKey (.string sub)) = true ↔ sub ∈ gn := by
  simp [Lit.sameKey]
end Go.Bd
namespace Go.Proofs.YtcjmfjccjhdgjaaGreatDoor
open Go.RowKit Go.Bd Go.Maps
theorem str_keyed : Keyed Tryz.prog 9 := string_keyed Tryz.underlying9
theorem zero_unit (w : World) : (zeroValue 192).run Tryz.prog w = .ok (.agg #[]) w := by kernel_rfl
theorem keyLits (gn : List Bs) : ∀ x ∈ gn.map Lit.string, WideAt.IsKeyLit x := by
  intro x hx
  simp at hx
  obtain ⟨a, _, rfl⟩ := hx
  first | exact ⟨_, rfl⟩ | trivial | simp [WideAt.IsKeyLit]
section
variable {w : World} {B : Nat} {col : Nat → Nat} {pb ob cap len : Nat} {s : ByteArray} {st : Pst} {i : Nat} {fv : Value} {gb : Nat} {cs : Array Value} {gn : List Bs}
set_option maxRecDepth 100000 in
theorem next_any {i0 : Nat} (h : PSx Tryz.prog w B col pb ob cap len s st i0 fv gb cs gn) (hi : i0 < i) (his : i ≤ s.size) (hs : s.size ≤ 100000) (sub : ByteArray) (hsub : sub.size ≤ 10) (m : Int) (hm : w.cell? ⟨0, 0, none⟩ = some (.int .i64 m)) :
    Calls Tryz.prog 117 #[.pointer (some ⟨pb, 0, none⟩), .int .i64 (i : Int), .string sub] w fun e w' => e = .returned (nextV (nextAt s.data.toList i sub.data.toList)) ∧
      ∃ gn', PSx Tryz.prog w' B col pb ob cap len s st i fv gb cs gn' ∧ Stay B w w' col col := by
  have H := Lib.hid h
  have hpw := h.hp.lt
  have hlt := World.ownsMap.lt h.hg
  have c3 := h.hp.cell 3
  have c0 := (h.hp.alloc (.cells #[] 192)).cell 0
  have d3 := (h.hp.alloc (.cells #[] 192)).cell 3
  have hm2 : (w.alloc (.cells #[] 192)).cell? ⟨0, 0, none⟩ = some (.int .i64 m) := (World.cell?_of_block (Below.heap_alloc w _ 0 (World.block_lt_of_cell? w _ hm))).trans hm
  have hg := h.hg
  have hg2 := h.hg.chg (Chg.alloc (Chg.refl w (fun _ => False)) (.cells #[] 192)) (fun h => h)
  have hkey : keyOf Tryz.prog 9 (.string sub) = some (.string sub.data.toList)  := WideMaps.keyOf_string_mk Tryz.underlying9 (by unfold maxLen; omega)
  have hgl := h.gnl
  have hhas := has_setOf (H := Unit) (.agg []) (.string sub.data.toList) _ (keyLits gn)
  have HG := Lib.hid (any_gone gn sub.data.toList)
  generalize (gn.map Lit.string).any (fun x => x.sameKey (.string sub.data.toList)) = bG at hhas HG
  have hsl : (s.extract i s.size).size < 4294967281 := by simp; omega
  have ci := Tryz.strings_Index (s.extract i s.size) sub m _ hsl hm2
  have hdl : (s.extract i s.size).data.toList = s.data.toList.drop i := by
    simp only [ByteArray.data_extract, Array.toList_extract, List.extract_eq_take_drop]
    exact List.take_of_length_le (by simp)
  rw [hdl] at ci
  have hlen : s.data.toList.length = s.size := by simp
  have hix := index_le2 (s.data.toList.drop i) sub.data.toList
  clear h
  go_enter Tryz.func117, Tryz.ntmps117
  go_wp2_with (first
    | (at_lookup; refine wpList_lookup_own_unit _ rfl _ _ 131 rfl 9 192 str_keyed Tryz.underlying131 (zero_unit _) gb _ _ rfl hg _ _ rfl hkey ?_)
    | fail)
  · go_ret
    have hin := HG.out.1 (by assumption)
    have hno := nextAt_none (H.out.gone _ hin i0 (Nat.le_refl _)) (Nat.le_of_lt hi)
    refine ⟨by rw [hno]; rfl, gn, (H.out.on (Nat.le_of_lt hi)).keep ((Chg.refl w (fun _ => False)).alloc _) (fun _ h => h.elim), ⟨(Below.refl _ _).alloc (by have := H.out.hpB; omega) _, fun c b _ hb hl => ⟨hb, Below.heap_alloc w _ b hl⟩⟩⟩
  · have hnin : sub.data.toList ∉ gn := fun hin => by
      have h1 := HG.out.2 hin
      have h2 : bG = false := by assumption
      rw [h1] at h2
      cases h2
    refine ci.mono ?_
    clear ci
    rintro e w' ⟨rfl, rfl⟩
    have HIX := Lib.hid hix
    have e2 : 0 ≤ Lib.index (s.data.toList.drop i) sub.data.toList → IntKind.i64.wrap ((i : Int) + Lib.index (s.data.toList.drop i) sub.data.toList) = (i : Int) + Lib.index (s.data.toList.drop i) sub.data.toList := fun h0 => IntWalk.i64_in _ (by
      rw [List.length_drop, hlen] at hix
      omega)
    have HNX : Hid (nextAt s.data.toList i sub.data.toList = if Lib.index (s.data.toList.drop i) sub.data.toList < 0 then none else some (i + (Lib.index (s.data.toList.drop i) sub.data.toList).toNat)) := rfl
    generalize Lib.index (s.data.toList.drop i) sub.data.toList = x at e2 HNX HIX
    clear hix hdl hlen
    go_wp2_with (first
      | (at_mapUpdate; refine wpList_mapUpdate_in _ rfl _ _ _ 131 rfl 9 192 str_keyed Tryz.underlying131 (unitElem (H := Unit)) gb _ _ rfl hg2 (by unfold maxLen; omega) _ _ _ rfl rfl hkey _ [] unitElem_mk ?_; intro w1 hown1 hturn1)
      | fail)
    · have hneg : x < 0 := by assumption
      have hno : nextAt s.data.toList i sub.data.toList = none := by rw [HNX.out, if_pos hneg]
      go_ret
      refine ⟨by rw [hno]; rfl, gn ++ [sub.data.toList], ?_⟩
      have hch : Chg w w1 (· = gb) := ((Chg.refl w _).alloc _).trans (chg_turned hturn1) (fun _ _ h => h)
      refine H.out.signs hch ?_ (fun g hg j hj => ?_) (by simp; omega)
      · unfold GoneAt
        rw [List.map_append, List.length_append]
        have hs := setOf_snoc (H := Unit) (.agg []) (gn.map Lit.string) (.string sub.data.toList)
        rw [show ([sub.data.toList].map Lit.string : List Lit) = [.string sub.data.toList] from rfl, hs]
        exact hown1
      · rcases List.mem_append.1 hg with h1 | h1
        · exact H.out.gone g h1 j (by omega)
        · obtain rfl := List.mem_singleton.1 h1
          exact nextAt_none hno hj
    · have hpos : 0 ≤ x := by assumption
      have hyes : nextAt s.data.toList i sub.data.toList = some (i + x.toNat) := by rw [HNX.out, if_neg (by omega)]
      go_ret
      refine ⟨by rw [hyes]; unfold nextV; simp only; rw [show ((i + x.toNat : Nat) : Int) = i + x by omega]; rfl, gn, (H.out.on (Nat.le_of_lt hi)).keep ((Chg.refl w (fun _ => False)).alloc _) (fun _ h => h.elim), ⟨(Below.refl _ _).alloc (by have := H.out.hpB; omega) _, fun c b _ hb hl => ⟨hb, Below.heap_alloc w _ b hl⟩⟩⟩
end
end Go.Proofs.YtcjmfjccjhdgjaaGreatDoor
namespace Go.Proofs.YtcjmfjccjhdgjaaGreatDoor
open Go.RowKit Go.Bd
theorem ret_bool {a b : Bool} (h : a = b) : Ending.returned (.bool a) = .returned (.bool b) := by rw [h]
theorem u8_eq (c d : UInt8) : (c == d) = decide (c.toNat = d.toNat) := by
  by_cases h : c = d
  · subst h; simp
  · rw [beq_eq_false_iff_ne.2 h, decide_eq_false]
    exact fun e => h (UInt8.toNat_inj.1 e)
set_option linter.unusedSimpArgs false
theorem letter_any (c : UInt8) (w : World) : Calls Tryz.prog 76 #[byteV c] w fun e w' => e = .returned (.bool (letterB c)) ∧ w = w' := by
  unfold byteV letterB
  simp only [UInt8.le_iff_toNat_le, show UInt8.toNat 65 = 65 from rfl, show UInt8.toNat 90 = 90 from rfl, show UInt8.toNat 97 = 97 from rfl, show UInt8.toNat 122 = 122 from rfl]
  generalize c.toNat = n
  go_enter Tryz.func76, Tryz.ntmps76
  go_wp2
  all_goals
    go_ret
    refine ⟨ret_bool ?_, rfl⟩
    rw [Bool.eq_iff_iff]
    simp only [Bool.or_eq_true, Bool.and_eq_true, beq_iff_eq, decide_eq_true_eq, reduceCtorEq, iff_true, true_iff, false_iff, Bool.false_eq_true]
    omega
def digB (c : UInt8) : Bool := decide (48 ≤ c) && decide (c ≤ 57)
theorem digit_any (c : UInt8) (w : World) : Calls Tryz.prog 77 #[byteV c] w fun e w' => e = .returned (.bool (digB c)) ∧ w = w' := by
  unfold byteV digB
  simp only [UInt8.le_iff_toNat_le, show UInt8.toNat 48 = 48 from rfl, show UInt8.toNat 57 = 57 from rfl]
  generalize c.toNat = n
  go_enter Tryz.func77, Tryz.ntmps77
  go_wp2
  all_goals
    go_ret
    refine ⟨ret_bool ?_, rfl⟩
    rw [Bool.eq_iff_iff]
    simp only [Bool.or_eq_true, Bool.and_eq_true, beq_iff_eq, decide_eq_true_eq, reduceCtorEq, iff_true, true_iff, false_iff, Bool.false_eq_true]
    omega
theorem blank_any (c : UInt8) (w : World) : Calls Tryz.prog 119 #[byteV c] w fun e w' => e = .returned (.bool (Bd.blank c)) ∧ w = w' := by
  unfold byteV Bd.blank
  generalize c.toNat = n
  go_enter Tryz.func119, Tryz.ntmps119
  go_wp2
  all_goals
    go_ret
    refine ⟨ret_bool ?_, rfl⟩
    rw [Bool.eq_iff_iff]
    simp only [Bool.or_eq_true, Bool.and_eq_true, beq_iff_eq, decide_eq_true_eq, reduceCtorEq, iff_true, true_iff, false_iff, Bool.false_eq_true]
    omega
theorem solid_any (c : UInt8) (w : World) : Calls Tryz.prog 120 #[byteV c] w fun e w' => e = .returned (.bool (solid c)) ∧ w = w' := by
  unfold byteV solid
  simp only [UInt8.le_iff_toNat_le, show UInt8.toNat 65 = 65 from rfl, show UInt8.toNat 90 = 90 from rfl, show UInt8.toNat 97 = 97 from rfl, show UInt8.toNat 122 = 122 from rfl, show UInt8.toNat 48 = 48 from rfl, show UInt8.toNat 57 = 57 from rfl]
  generalize c.toNat = n
  go_enter Tryz.func120, Tryz.ntmps120
  go_wp2
  all_goals
    go_ret
    refine ⟨ret_bool ?_, rfl⟩
    rw [Bool.eq_iff_iff]
    simp only [Bool.or_eq_true, Bool.and_eq_true, beq_iff_eq, decide_eq_true_eq, reduceCtorEq, iff_true, true_iff, false_iff, Bool.false_eq_true]
    omega
theorem escaped_any (c : UInt8) (w : World) : Calls Tryz.prog 96 #[byteV c] w fun e w' => e = .returned (.bool (escB c)) ∧ w = w' := by
  unfold byteV escB
  simp only [u8_eq, show UInt8.toNat 42 = 42 from rfl, show UInt8.toNat 95 = 95 from rfl, show UInt8.toNat 60 = 60 from rfl, show UInt8.toNat 40 = 40 from rfl, show UInt8.toNat 94 = 94 from rfl, show UInt8.toNat 93 = 93 from rfl, show UInt8.toNat 92 = 92 from rfl, show UInt8.toNat 96 = 96 from rfl]
  generalize c.toNat = n
  go_enter Tryz.func96, Tryz.ntmps96
  go_wp2
  all_goals
    go_ret
    refine ⟨ret_bool ?_, rfl⟩
    rw [Bool.eq_iff_iff]
    simp only [Bool.or_eq_true, Bool.and_eq_true, beq_iff_eq, decide_eq_true_eq, reduceCtorEq, iff_true, true_iff, false_iff, Bool.false_eq_true]
    simp only [beq_iff_eq, beq_eq_false_iff_ne] at *
    omega
theorem headD_list (l : Bs) (h : 0 < l.length) : l.headD 0 = l[0] := by
  cases l with
  | nil => simp at h
  | cons a l => simp
theorem headD_get (s : ByteArray) (h : 0 < s.size) : s.data.toList.headD 0 = s[0] :=
  (headD_list s.data.toList (by simpa using h)).trans (by first | rfl | simp [ByteArray.getElem_eq_getElem_data])
def okB (c : UInt8) : Bool := solid c || c == 45
theorem okB_def (c : UInt8) : okB c = (letterB c || digB c || decide (c.toNat = 45)) := by
  rw [← show UInt8.toNat 45 = 45 from rfl, ← u8_eq]; rfl
theorem all_take_succ (s : ByteArray) (k : Nat) (h : k < s.size) : (s.data.toList.take (k + 1)).all okB = ((s.data.toList.take k).all okB && okB s[k]) := by
  have e : s[k] = s.data.toList[k]'(by simpa using h) := by
    first | rfl | simp [ByteArray.getElem_eq_getElem_data]
  rw [e, List.take_succ_eq_append_getElem (by simpa using h), List.all_append]
  simp
set_option maxRecDepth 100000 in
set_option maxHeartbeats 400000 in
theorem name_any (s : ByteArray) (w : World) (hs : s.size ≤ 100000) : Calls Tryz.prog 54 #[.string s] w fun e w' => e = .returned (.bool (nameB s.data.toList)) ∧ w = w' := by
  have cl := fun c w => letter_any c w
  have cd := fun c w => digit_any c w
  unfold byteV at cl cd
  have hlen : s.data.toList.length = s.size := by simp
  have HB : Hid (nameB s.data.toList = (decide (1 ≤ s.size) && decide (s.size ≤ 60) && letterB (s.data.toList.headD 0) && s.data.toList.all okB)) := by
    show nameB s.data.toList = _
    unfold nameB
    rw [hlen]; rfl
  clear hlen
  go_enter Tryz.func54, Tryz.ntmps54
  go_wp2_with (first
    | (go_at_call 76; refine (cl _ _).mono ?_; rintro e w' ⟨rfl, rfl⟩)
    | fail)
  · go_ret
    refine ⟨ret_bool ?_, rfl⟩
    rename_i h1 h2 h3 h4
    rw [HB.out, headD_get s h3]
    rcases h4 with h4 | h4
    · omega
    · have h5 : letterB s[0] = false := by simpa using h4
      simp [h5]
  · have h3 : 0 < s.size := ‹0 < s.size›
    rename _ ∧ (!letterB s[0]) = false => h4
    have hl0 : letterB (s.data.toList.headD 0) = true := by rw [headD_get s h3]; simpa using h4.2
    have HL := Lib.hid hl0
    have HR := Lib.hid h4.1
    clear h4 hl0
    go_loopg [21] s.size (fun gk i wr => wr = w ∧ ∃ k : Nat, k + gk = s.size ∧ i = .int .i64 k ∧ (s.data.toList.take k).all okB = true)
    case atStart => exact ⟨rfl, 0, by omega, rfl, rfl⟩
    case round =>
      obtain ⟨rfl, k, hk, rfl, hall⟩ := hrel
      have HA := Lib.hid hall
      clear hall
      go_wp2_with (first
        | (go_at_call 76; refine (cl _ _).mono ?_; rintro e w' ⟨rfl, rfl⟩)
        | (go_at_call 77; refine (cd _ _).mono ?_; rintro e w' ⟨rfl, rfl⟩)
        | fail)
      · go_roundg (gk - 1)
        case measure => omega
        case rel => exact ⟨rfl, k + 1, by omega, by go_num, by rw [all_take_succ s k ‹_›, HA.out, okB_def, ‹letterB s[k] = true›]; rfl⟩
      · go_roundg (gk - 1)
        case measure => omega
        case rel => exact ⟨rfl, k + 1, by omega, by go_num, by rw [all_take_succ s k ‹_›, HA.out, okB_def, ‹digB s[k] = true›, Bool.or_true]; rfl⟩
      · go_ret
        refine ⟨ret_bool ?_, rfl⟩
        have hk2 : k < s.size := by assumption
        have h5 : ¬ s[k].toNat = 45 := fun e => by
          have h6 : ((s[k].toNat : Int) != 45) = true := by assumption
          rw [e] at h6
          simp at h6
        have h7 : okB s[k] = false := by
          rw [okB_def, Bool.eq_false_iff.2 ‹¬ letterB s[k] = true›, Bool.eq_false_iff.2 ‹¬ digB s[k] = true›, decide_eq_false h5]
          rfl
        have h8 : s.data.toList.all okB = false := by
          rw [Bool.eq_false_iff]
          intro h
          have h9 := all_take_succ s k hk2
          rw [h7, Bool.and_false] at h9
          rw [Bool.eq_false_iff] at h9
          refine h9 (List.all_eq_true.2 fun x hx => List.all_eq_true.1 h x (List.mem_of_mem_take hx))
        rw [HB.out, h8, Bool.and_false]
      · go_roundg (gk - 1)
        case measure => omega
        case rel =>
          have h5 : s[k].toNat = 45 := by
            have h6 : ((s[k].toNat : Int) != 45) = false := by assumption
            simp at h6
            omega
          exact ⟨rfl, k + 1, by omega, by go_num, by rw [all_take_succ s k ‹_›, HA.out, okB_def, decide_eq_true h5, Bool.or_true]; rfl⟩
      · go_ret
        refine ⟨ret_bool ?_, rfl⟩
        have hk2 : k = s.size := by omega
        have h8 := HA.out
        rw [List.take_of_length_le (by simp; omega)] at h8
        rw [HB.out, h8, HL.out, decide_eq_true (by omega), decide_eq_true (by omega)]
        rfl
  · go_ret
    refine ⟨ret_bool ?_, rfl⟩
    rw [HB.out, decide_eq_false (by omega : ¬ s.size ≤ 60)]
    simp
  · go_ret
    refine ⟨ret_bool ?_, rfl⟩
    rw [HB.out, decide_eq_false (by omega : ¬ 1 ≤ s.size)]
    simp
end Go.Proofs.YtcjmfjccjhdgjaaGreatDoor
namespace Go.Bd
def asV : Sp ⊕ Nat → Value
  | .inl x => .tuple #[.agg #[.int .u8 (x.kind : Int), strV x.text, strV x.sub, strV x.see, .slice none 0 0], .int .i64 0]
  | .inr f => .tuple #[.agg #[.int .u8 0, strV [], strV [], strV [], .slice none 0 0], .int .i64 (f : Int)]
theorem results_row_tmp {P : Program} {fn : Func} {p u : Tmp} {ty : TypeId} (h : fn.results = #[.cell p ty, .tmp u]) (tmps : Array Value) (w : World) (g : Nat) (t : TypeId) (cs : Array Value) (fr : Nat × Nat) (d : TypeDesc)
    (hp : tmps.getD p undef = .pointer (some ⟨g, 0, none⟩)) (hg : w.heap[g]? = some (.cells cs t fr))
    (hu : P.underlying ty = some d) (hd : (match d with | .struct _ | .array _ _ => true | _ => false) = true) (hi : (P.info? ty).map (·.size) = some cs.size) :
    (results fn tmps).run P w = .ok (.tuple #[.agg cs, tmps.getD u undef]) w := by
  rw [results_cell_tmp h, hp]
  simp [asAddr, run_loadVar_row w g t ty cs fr d hg hu hd hi, Result.andThen]
theorem strV_bytes (s : ByteArray) : strV s.data.toList = .string s := by unfold strV; simp
end Go.Bd
namespace Go.Proofs.YtcjmfjccjhdgjaaGreatDoor
open Go.RowKit Go.Bd
def AsOk (F : Nat) (af : Bs → Sp ⊕ Nat) : Prop := (∀ args w, Sem.run Tryz.prog (callFunc F args) w = .ok (.enter F args) w) ∧ ∀ (t : ByteArray) (w : World) (m : Int), t.size ≤ 100000 → w.cell? ⟨0, 0, none⟩ = some (.int .i64 m) →
  Calls Tryz.prog F #[.string t] w fun e w' => e = .returned (asV (af t.data.toList)) ∧ Below w.heap.size w w'
theorem span_size : (Tryz.prog.info? 91).map (·.size) = some 5 := by kernel_rfl
set_option maxRecDepth 100000 in
theorem code_any : AsOk 99 codeS := by
  refine ⟨fun args w => by kernel_rfl, ?_⟩
  intro t w m ht hm
  unfold codeS asV
  simp only [strV_bytes]
  unfold strV
  go_enter Tryz.func99, Tryz.ntmps99
  go_wp2
  (try simp only [Exit.inBlock, Exit.then])
  refine bodyPost_ret (results_row_tmp rfl _ _ w.heap.size _ _ _ _ rfl (heap_alloc_new w _) Tryz.underlying91 rfl span_size) rfl ?_
  exact ⟨rfl, (Below.refl _ _).alloc (Nat.le_refl _) _⟩
set_option maxRecDepth 100000 in
theorem ref_any : AsOk 100 refS := by
  refine ⟨fun args w => by kernel_rfl, ?_⟩
  intro t w m ht hm
  have HA : Hid (asV (refS t.data.toList) = if nameB t.data.toList = true then .tuple #[.agg #[.int .u8 4, .string t, .string ⟨#[]⟩, .string ⟨#[]⟩, .slice none 0 0], .int .i64 0] else .tuple #[.agg #[.int .u8 0, .string ⟨#[]⟩, .string ⟨#[]⟩, .string ⟨#[]⟩, .slice none 0 0], .int .i64 10]) := by
    show asV (refS t.data.toList) = _
    unfold refS
    split
    · unfold asV; simp only [strV_bytes]; rfl
    · rfl
  have cn2 := name_any t (w.alloc (.cells #[.int .u8 0, .string ⟨#[]⟩, .string ⟨#[]⟩, .string ⟨#[]⟩, .slice none 0 0] 91)) ht
  generalize nameB t.data.toList = b at cn2 HA
  go_enter Tryz.func100, Tryz.ntmps100
  go_wp2_with (first
    | (go_at_call 54; refine cn2.mono ?_; rintro e w' ⟨rfl, rfl⟩)
    | fail)
  · have hb : b = false := by simpa using ‹(!b) = true›
    rw [hb] at HA
    (try simp only [Exit.inBlock, Exit.then])
    refine bodyPost_ret (results_row_tmp rfl _ _ w.heap.size _ _ _ _ rfl (heap_alloc_new w _) Tryz.underlying91 rfl span_size) rfl ?_
    exact ⟨by rw [HA.out]; rfl, (Below.refl _ _).alloc (Nat.le_refl _) _⟩
  · have hb : b = true := by simpa using ‹(!b) = false›
    rw [hb] at HA
    (try simp only [Exit.inBlock, Exit.then])
    refine bodyPost_ret (results_row_tmp rfl _ _ w.heap.size _ _ _ _ rfl (heap_alloc_new w _) Tryz.underlying91 rfl span_size) rfl ?_
    exact ⟨by rw [HA.out]; rfl, (Below.refl _ _).alloc (Nat.le_refl _) _⟩
end Go.Proofs.YtcjmfjccjhdgjaaGreatDoor
namespace Go.Proofs.YtcjmfjccjhdgjaaGreatDoor
open Go.RowKit Go.Bd
section
variable {w : World} {B : Nat} {col : Nat → Nat} {pb ob cap len : Nat} {s : ByteArray} {st : Pst} {i : Nat} {fv : Value} {gb : Nat} {cs : Array Value} {gn : List Bs}
theorem psCell0 {w' : World} {col' : Nat → Nat} {m : Int} (h : Stay B w w' col col') (hB : 0 < B) (hm : w.cell? ⟨0, 0, none⟩ = some (.int .i64 m)) : w'.cell? ⟨0, 0, none⟩ = some (.int .i64 m) := (h.below.cell hB).trans hm
theorem Stay.cell {w' : World} {col' : Nat → Nat} (h : Stay B w w' col col') {g j : Nat} {v : Value} (hg : col g = 8) (hc : w.cell? ⟨g, j, none⟩ = some v) : w'.cell? ⟨g, j, none⟩ = some v :=
  (World.cell?_of_block (a := ⟨g, j, none⟩) (h.tree 8 g (.inr rfl) hg (World.block_lt_of_cell? w _ hc)).2).trans hc
set_option maxRecDepth 100000 in
set_option maxHeartbeats 1000000 in
theorem between_none (h : PSx Tryz.prog w B col pb ob cap len s st i fv gb cs gn) (hl : len = st.fs.length) (hI : Inv st i) (a b : ByteArray) (ha : 1 ≤ a.size) (ha2 : a.size ≤ 2) (hb : b.size ≤ 2) (hi : i + a.size ≤ s.size) (hs : s.size ≤ 100000) (F : Nat) (m : Int) (hm : w.cell? ⟨0, 0, none⟩ = some (.int .i64 m))
    (hn : nextAt s.data.toList (i + a.size) b.data.toList = none) :
    Calls Tryz.prog 98 #[.pointer (some ⟨pb, 0, none⟩), .int .i64 (i : Int), .string a, .string b, .func (.func F) #[] #[]] w fun e w' => e = .returned (.int .i64 ((i + a.size : Nat) : Int)) ∧
      ∃ col' fv' cs' gn', PSx Tryz.prog w' B col' pb ob cap len s ((st.write a.data.toList).tell i 7) (i + a.size) fv' gb cs' gn' ∧ Stay B w w' col col' := by
  obtain ⟨f, r, hfs⟩ : ∃ f r, st.fs = f :: r := by
    match hq : st.fs, hI.2.2.1 with
    | f :: r, _ => exact ⟨f, r, rfl⟩
    | [], hq2 => simp at hq2
  have hr : st.fs.length = r.length + 1 := by rw [hfs]; rfl
  have hwt : wtF f + wtFs r ≤ i := by
    have := hI.1
    rw [hfs, wtFs_cons] at this
    exact this
  have hftx : f.row.tx.length ≤ 100000 := by unfold wtF wtR at hwt; omega
  have hr17 : r.length ≤ 17 := by have := hI.2.2.2; omega
  have hflt : st.faults.length ≤ 10000000 := by have := hI.2.1; omega
  have cN := next_any h (i := i + a.size) (by omega) hi hs b (by omega) m hm
  rw [hn] at cN
  have e1 : IntKind.i64.wrap ((i : Int) + (a.size : Int)) = ((i + a.size : Nat) : Int) := by
    rw [← Int.natCast_add]; exact IntWalk.i64_in _ (by omega)
  have HFS := Lib.hid hfs
  have HL : Hid (len = r.length + 1) := hl.trans hr
  clear h hfs hl hr hwt hI hn
  go_enter Tryz.func98, Tryz.ntmps98
  go_wp2_with fail
  refine cN.mono ?_
  clear cN
  rintro e w1 ⟨rfl, gn1, h1, st1⟩
  have H1 := Lib.hid h1
  have ST1 := Lib.hid st1
  clear h1 st1
  unfold nextV
  go_wp2_with fail
  refine (top_any (n := r.length) (by rw [← HL.out]; exact H1.out) (by omega)).mono ?_
  rintro e w2 ⟨rfl, kk, rfl⟩
  go_wp2_with fail
  refine (writeTop_any (PSx.drewN H1.out kk) HFS.out a (by omega) (by omega)).mono ?_
  rintro e w3 ⟨rfl, col3, cs3, h3, st3⟩
  have H3 := Lib.hid h3
  have ST3 := Lib.hid st3
  clear h3 st3
  go_wp2_with fail
  refine (tell_any H3.out i 7 hflt).mono ?_
  rintro e w4 ⟨rfl, col4, fv4, h4, st4⟩
  have H4 := Lib.hid h4
  have ST4 := Lib.hid st4
  clear h4 st4
  go_wp2
  go_ret
  exact ⟨rfl, col4, fv4, cs3, gn1, H4.out, (ST1.out.trans ST3.out.undrew).trans ST4.out⟩
end
end Go.Proofs.YtcjmfjccjhdgjaaGreatDoor
namespace Go.Proofs.YtcjmfjccjhdgjaaGreatDoor
open Go.RowKit Go.Bd
section
variable {w : World} {B : Nat} {col : Nat → Nat} {pb ob cap len : Nat} {s : ByteArray} {st : Pst} {i : Nat} {fv : Value} {gb : Nat} {cs : Array Value} {gn : List Bs}
theorem cut_list (s : ByteArray) (i j : Nat) : (s.extract i j).data.toList = (s.data.toList.drop i).take (j - i) := by
  simp only [ByteArray.data_extract, Array.toList_extract, List.extract_eq_take_drop]
def spAgg : Sp ⊕ Nat → Value
  | .inl x => .agg #[.int .u8 (x.kind : Int), strV x.text, strV x.sub, strV x.see, .slice none 0 0]
  | .inr _ => .agg #[.int .u8 0, strV [], strV [], strV [], .slice none 0 0]
set_option maxRecDepth 100000 in
set_option maxHeartbeats 2000000 in
theorem between_bad (h : PSx Tryz.prog w B col pb ob cap len s st i fv gb cs gn) (hl : len = st.fs.length) (hI : Inv st i) (a b : ByteArray) (ha : 1 ≤ a.size) (ha2 : a.size ≤ 2) (hb : b.size ≤ 2) (hi : i + a.size ≤ s.size) (hs : s.size ≤ 100000) (F : Nat) (m : Int) (hm : w.cell? ⟨0, 0, none⟩ = some (.int .i64 m)) (hB : 0 < B)
    {n : Nat} (hn : nextAt s.data.toList (i + a.size) b.data.toList = some n) (hnb : n + b.size ≤ s.size) {af : Bs → Sp ⊕ Nat} (hF : AsOk F af) {fc : Nat} (haf : af ((s.data.toList.drop (i + a.size)).take (n - (i + a.size))) = .inr fc) (hfc : 1 ≤ fc) :
    Calls Tryz.prog 98 #[.pointer (some ⟨pb, 0, none⟩), .int .i64 (i : Int), .string a, .string b, .func (.func F) #[] #[]] w fun e w' => e = .returned (.int .i64 ((n + b.size : Nat) : Int)) ∧
      ∃ col' fv' cs' gn', PSx Tryz.prog w' B col' pb ob cap len s ((st.write ((s.data.toList.drop i).take (n + b.size - i))).tell i fc) (n + b.size) fv' gb cs' gn' ∧ Stay B w w' col col' := by
  obtain ⟨f, r, hfs⟩ : ∃ f r, st.fs = f :: r := by
    match hq : st.fs, hI.2.2.1 with
    | f :: r, _ => exact ⟨f, r, rfl⟩
    | [], hq2 => simp at hq2
  have hr : st.fs.length = r.length + 1 := by rw [hfs]; rfl
  have hwt : wtF f + wtFs r ≤ i := by
    have := hI.1
    rw [hfs, wtFs_cons] at this
    exact this
  have hftx : f.row.tx.length ≤ 100000 := by unfold wtF wtR at hwt; omega
  have hr17 : r.length ≤ 17 := by have := hI.2.2.2; omega
  have hflt : st.faults.length ≤ 10000000 := by have := hI.2.1; omega
  have cN := next_any h (i := i + a.size) (by omega) hi hs b (by omega) m hm
  rw [hn] at cN
  have hge := nextAt_le hn
  have e1 : IntKind.i64.wrap ((i : Int) + (a.size : Int)) = ((i + a.size : Nat) : Int) := by
    rw [← Int.natCast_add]; exact IntWalk.i64_in _ (by omega)
  have e2 : IntKind.i64.wrap ((n : Int) + (b.size : Int)) = ((n + b.size : Nat) : Int) := by
    rw [← Int.natCast_add]; exact IntWalk.i64_in _ (by omega)
  have HAF : Hid (∀ w : World, w.cell? ⟨0, 0, none⟩ = some (.int .i64 m) → Calls Tryz.prog F #[.string (s.extract (i + a.size) n)] w fun e w' => e = .returned (.tuple #[.agg #[.int .u8 0, .string ⟨#[]⟩, .string ⟨#[]⟩, .string ⟨#[]⟩, .slice none 0 0], .int .i64 (fc : Int)]) ∧ Below w.heap.size w w') := fun w hm => by
    have := hF.2 (s.extract (i + a.size) n) w m (by simp; omega) hm
    rw [cut_list, haf] at this
    exact this
  have HEN := Lib.hid hF.1
  have HFS := Lib.hid hfs
  have HL : Hid (len = r.length + 1) := hl.trans hr
  clear h hfs hl hr hwt hI hn haf hF
  go_enter Tryz.func98, Tryz.ntmps98
  go_wp2_with fail
  refine cN.mono ?_
  clear cN
  rintro e w1 ⟨rfl, gn1, h1, st1⟩
  have H1 := Lib.hid h1
  have ST1 := Lib.hid st1
  have c0 := h1.hp.cell 0
  have hm1 := psCell0 st1 hB hm
  clear h1 st1
  unfold nextV
  go_wp2_with fail
  rw [HEN.out, Oper.upon_enter]
  refine (HAF.out _ hm1).mono ?_
  rintro e w2 ⟨rfl, hb2⟩
  have hch := (Chg.below hb2 (fun _ => False)).alloc (.cells #[.int .u8 0, .string ⟨#[]⟩, .string ⟨#[]⟩, .string ⟨#[]⟩, .slice none 0 0] 91)
  have h2 := H1.out.keep hch (fun _ h => h.elim)
  have HP2 := Lib.hid h2
  have d0 := h2.hp.cell 0
  have HPD := Lib.hid (fun k => PSx.drewN h2 k)
  have ST2 : Hid (Stay B w1 (w2.alloc (.cells #[.int .u8 0, .string ⟨#[]⟩, .string ⟨#[]⟩, .string ⟨#[]⟩, .slice none 0 0] 91)) col col) :=
    Lib.hid ⟨hch.toBelow (psBase H1.out) (fun _ h => h.elim), fun c k _ hk hl => ⟨hk, hch.block k hl (fun h => h)⟩⟩
  clear hb2 h2 hch
  have q1 : (0 : Int) ≤ (n : Int) + (b.size : Int) := by omega
  have q2 : (n : Int) + (b.size : Int) ≤ (s.size : Int) := by omega
  have q3 : (i : Int) ≤ (n : Int) + (b.size : Int) := by omega
  have q4 : ((n : Int) + (b.size : Int)).toNat = n + b.size := by omega
  go_wp2
  refine wp_region_held_drew (S := (fun w' => w'.cell? ⟨pb, 0, none⟩ = some (.string s))) (by kernel_rfl) ?_ (fun hHeld0 => ?_)
  · (try dsimp only)
    first | exact d0 | exact z0
  refine wpAnyH_take (i := 0) (v := ?_) rfl (by kernel_rfl) (by kernel_rfl) (by kernel_rfl) (fun _ _ _ h => h) (Or.inl ⟨by kernel_rfl, ?_⟩) (by assumption) ?_
  rotate_left
  · (intro w hSw; (try dsimp only at hSw); go_simp; (first | done | with_reducible rfl))
  (try simp only [Act.put, List.setIfInBounds_toArray, List.set_cons_zero, List.set_cons_succ])
  refine wpAnyH_take (i := 4) (v := ?_) rfl (by kernel_rfl) (by kernel_rfl) (by kernel_rfl) (fun _ _ _ h => h) (Or.inl ⟨by kernel_rfl, ?_⟩) (by assumption) ?_
  rotate_left
  · (intro w hSw; (try dsimp only at hSw); go_simp; (first | done | with_reducible rfl))
  (try simp only [Act.put, List.setIfInBounds_toArray, List.set_cons_zero, List.set_cons_succ])
  refine wpAnyH_take (i := 5) (v := ?_) rfl (by kernel_rfl) (by kernel_rfl) (by kernel_rfl) (fun _ _ _ h => h) (Or.inl ⟨by kernel_rfl, ?_⟩) (by assumption) ?_
  rotate_left
  · (intro w hSw; (try dsimp only at hSw); go_simp; (first | done | with_reducible rfl))
  (try simp only [Act.put, List.setIfInBounds_toArray, List.set_cons_zero, List.set_cons_succ])
  refine wpAnyH_take (i := 6) (v := ?_) rfl (by kernel_rfl) (by kernel_rfl) (by kernel_rfl) (fun _ _ _ h => h) (Or.inl ⟨by kernel_rfl, ?_⟩) (by assumption) ?_
  rotate_left
  · (intro w hSw; (try dsimp only at hSw); go_simp; (first | done | with_reducible rfl))
  (try simp only [Act.put, List.setIfInBounds_toArray, List.set_cons_zero, List.set_cons_succ])
  refine wpAnyH_take (i := 7) (v := ?_) rfl (by kernel_rfl) (by kernel_rfl) (by kernel_rfl) (fun _ _ _ h => h) (Or.inl ⟨by kernel_rfl, ?_⟩) (by assumption) ?_
  rotate_left
  · (intro w hSw; (try dsimp only at hSw); go_simp; (first | done | with_reducible rfl))
  (try simp only [Act.put, List.setIfInBounds_toArray, List.set_cons_zero, List.set_cons_succ])
  refine wpAnyH_take (i := 8) (v := ?_) rfl (by kernel_rfl) (by kernel_rfl) (by kernel_rfl) (fun _ _ _ h => h) (Or.inl ⟨by kernel_rfl, ?_⟩) (by assumption) ?_
  rotate_left
  · (intro w hSw; (try dsimp only at hSw); go_simp; (first | done | with_reducible rfl))
  (try simp only [Act.put, List.setIfInBounds_toArray, List.set_cons_zero, List.set_cons_succ])
  refine wpAnyH_take (i := 9) (v := ?_) rfl (by kernel_rfl) (by kernel_rfl) (by kernel_rfl) (fun _ _ _ h => h) (Or.inl ⟨by kernel_rfl, ?_⟩) (by assumption) ?_
  rotate_left
  · (intro w hSw; (try dsimp only at hSw); go_simp; (first | done | with_reducible rfl))
  (try simp only [Act.put, List.setIfInBounds_toArray, List.set_cons_zero, List.set_cons_succ])
  refine wpAnyH_take (i := 10) (v := ?_) rfl (by kernel_rfl) (by kernel_rfl) (by kernel_rfl) (fun _ _ _ h => h) (Or.inl ⟨by kernel_rfl, ?_⟩) (by assumption) ?_
  rotate_left
  · (intro w hSw; (try dsimp only at hSw); go_simp; (first | done | with_reducible rfl))
  (try simp only [Act.put, List.setIfInBounds_toArray, List.set_cons_zero, List.set_cons_succ])
  refine wpAnyH_ready (rs := [1]) (by kernel_rfl) (by simp) ?_
  refine AllReadyH.cons rfl (fun K hK => ?_) AllReadyH.nil
  go_simp
  refine (top_any (n := r.length) (by rw [← HL.out]; exact HPD.out _) (by omega)).mono ?_
  rintro e w3 ⟨rfl, kk, rfl⟩
  go_wp2_with fail
  refine hK.out _ _ ?_ (fun hHeld1 => ?_)
  · (try dsimp only)
    first | exact d0 | exact z0
  clear hK K hHeld0
  (try simp only [Act.put, List.setIfInBounds_toArray, List.set_cons_zero, List.set_cons_succ])
  refine wpAnyH_take (i := 2) (v := ?_) rfl (by kernel_rfl) (by kernel_rfl) (by kernel_rfl) (fun _ _ _ h => h) (Or.inl ⟨by kernel_rfl, ?_⟩) (by assumption) ?_
  rotate_left
  · (intro w hSw; (try dsimp only at hSw); go_simp; (first | done | with_reducible rfl))
  (try simp only [Act.put, List.setIfInBounds_toArray, List.set_cons_zero, List.set_cons_succ])
  refine wpAnyH_take (i := 3) (v := ?_) rfl (by kernel_rfl) (by kernel_rfl) (by kernel_rfl) (fun _ _ _ h => h) (Or.inl ⟨by kernel_rfl, ?_⟩) (by assumption) ?_
  rotate_left
  · (intro w hSw; (try dsimp only at hSw); go_simp; (first | done | with_reducible rfl))
  (try simp only [Act.put, List.setIfInBounds_toArray, List.set_cons_zero, List.set_cons_succ])
  refine wpAnyH_ready (rs := [11]) (by kernel_rfl) (by simp) ?_
  refine AllReadyH.cons rfl (fun K hK => ?_) AllReadyH.nil
  go_simp
  refine (writeTop_any (HPD.out _) HFS.out (s.extract i (n + b.size)) (by simp; omega) (by omega)).mono ?_
  rintro e w4 ⟨rfl, col4, cs4, h4, st4⟩
  have st5 := st4.undrew
  have H4 := Lib.hid h4
  have ST4 := Lib.hid st5
  have z0 := h4.hp.cell 0
  clear h4 st4 st5
  go_wp2_with fail
  refine hK.out _ _ ?_ (fun hHeld2 => ?_)
  · (try dsimp only)
    first | exact d0 | exact z0
  clear hK K hHeld1
  (try simp only [Act.put, List.setIfInBounds_toArray, List.set_cons_zero, List.set_cons_succ])
  refine wpAnyH_done (by kernel_rfl) ?_ _
  go_wp2_with fail
  refine (tell_any H4.out i fc hflt).mono ?_
  rintro e w5 ⟨rfl, col5, fv5, h5, st5⟩
  go_wp2
  go_ret
  rw [cut_list] at h5
  exact ⟨rfl, col5, fv5, cs4, gn1, h5.on (by omega), ((ST1.out.trans ST2.out).trans ST4.out).trans st5⟩
end
end Go.Proofs.YtcjmfjccjhdgjaaGreatDoor
namespace Go.Proofs.YtcjmfjccjhdgjaaGreatDoor
open Go.RowKit Go.Bd
section
variable {w : World} {B : Nat} {col : Nat → Nat} {pb ob cap len : Nat} {s : ByteArray} {st : Pst} {i : Nat} {fv : Value} {gb : Nat} {cs : Array Value} {gn : List Bs}
set_option maxRecDepth 100000 in
set_option maxHeartbeats 2000000 in
theorem between_good (h : PSx Tryz.prog w B col pb ob cap len s st i fv gb cs gn) (hl : len = st.fs.length) (hI : Inv st i) (a b : ByteArray) (ha : 1 ≤ a.size) (ha2 : a.size ≤ 2) (hb : b.size ≤ 2) (hi : i + a.size ≤ s.size) (hs : s.size ≤ 100000) (F : Nat) (m : Int) (hm : w.cell? ⟨0, 0, none⟩ = some (.int .i64 m)) (hB : 0 < B)
    {n : Nat} (hn : nextAt s.data.toList (i + a.size) b.data.toList = some n) (hnb : n + b.size ≤ s.size) {af : Bs → Sp ⊕ Nat} (hF : AsOk F af) {x : Sp} (haf : af ((s.data.toList.drop (i + a.size)).take (n - (i + a.size))) = .inl x) (hk0 : x.kids = []) (hxt : x.kind = 0 → x.text.length ≤ 1000000) :
    Calls Tryz.prog 98 #[.pointer (some ⟨pb, 0, none⟩), .int .i64 (i : Int), .string a, .string b, .func (.func F) #[] #[]] w fun e w' => e = .returned (.int .i64 ((n + b.size : Nat) : Int)) ∧
      ∃ col' fv' cs' gn', PSx Tryz.prog w' B col' pb ob cap len s (st.top (·.add x)) (n + b.size) fv' gb cs' gn' ∧ Stay B w w' col col' := by
  obtain ⟨f, r, hfs⟩ : ∃ f r, st.fs = f :: r := by
    match hq : st.fs, hI.2.2.1 with
    | f :: r, _ => exact ⟨f, r, rfl⟩
    | [], hq2 => simp at hq2
  have hr : st.fs.length = r.length + 1 := by rw [hfs]; rfl
  have hwt : wtF f + wtFs r ≤ i := by
    have := hI.1
    rw [hfs, wtFs_cons] at this
    exact this
  have hftx : f.row.tx.length ≤ 100000 := by unfold wtF wtR at hwt; omega
  have hfsp : f.row.sp.length ≤ 100000 := by have := wtL_len f.row.sp; unfold wtF wtR at hwt; omega
  have hr17 : r.length ≤ 17 := by have := hI.2.2.2; omega
  have hflt : st.faults.length ≤ 10000000 := by have := hI.2.1; omega
  have cN := next_any h (i := i + a.size) (by omega) hi hs b (by omega) m hm
  rw [hn] at cN
  have hge := nextAt_le hn
  have e1 : IntKind.i64.wrap ((i : Int) + (a.size : Int)) = ((i + a.size : Nat) : Int) := by
    rw [← Int.natCast_add]; exact IntWalk.i64_in _ (by omega)
  have e2 : IntKind.i64.wrap ((n : Int) + (b.size : Int)) = ((n + b.size : Nat) : Int) := by
    rw [← Int.natCast_add]; exact IntWalk.i64_in _ (by omega)
  have HAF : Hid (∀ w : World, w.cell? ⟨0, 0, none⟩ = some (.int .i64 m) → Calls Tryz.prog F #[.string (s.extract (i + a.size) n)] w fun e w' => e = .returned (.tuple #[.agg #[.int .u8 (x.kind : Int), strV x.text, strV x.sub, strV x.see, .slice none 0 0], .int .i64 0]) ∧ Below w.heap.size w w') := fun w hm => by
    have := hF.2 (s.extract (i + a.size) n) w m (by simp; omega) hm
    rw [cut_list, haf] at this
    exact this
  have HEN := Lib.hid hF.1
  have HFS := Lib.hid hfs
  have HL : Hid (len = r.length + 1) := hl.trans hr
  clear h hfs hl hr hwt hI hn haf hF
  go_enter Tryz.func98, Tryz.ntmps98
  go_wp2_with fail
  refine cN.mono ?_
  clear cN
  rintro e w1 ⟨rfl, gn1, h1, st1⟩
  have H1 := Lib.hid h1
  have ST1 := Lib.hid st1
  have c0 := h1.hp.cell 0
  have hm1 := psCell0 st1 hB hm
  clear h1 st1
  unfold nextV
  go_wp2_with fail
  rw [HEN.out, Oper.upon_enter]
  refine (HAF.out _ hm1).mono ?_
  rintro e w2 ⟨rfl, hb2⟩
  unfold strV
  have hch := Chg.below hb2 (fun _ => False)
  have h2 := H1.out.keep hch (fun _ h => h.elim)
  have st2 : Stay B w1 w2 col col := ⟨hch.toBelow (psBase H1.out) (fun _ h => h.elim), fun c k _ hk hl => ⟨hk, hch.block k hl (fun h => h)⟩⟩
  obtain ⟨colL, hL, stL, h8, _⟩ := h2.local (.cells #[.int .u8 (x.kind : Int), .string ⟨x.text.toArray⟩, .string ⟨x.sub.toArray⟩, .string ⟨x.see.toArray⟩, .slice none 0 0] 91)
  have hX := Holds.new w2 91 #[.int .u8 (x.kind : Int), .string ⟨x.text.toArray⟩, .string ⟨x.sub.toArray⟩, .string ⟨x.see.toArray⟩, .slice none 0 0]
  have HX := Lib.hid hX
  have HPD := Lib.hid (fun k => PSx.drewN hL k)
  have ST2 := Lib.hid (st2.trans stL)
  have HK0 := Lib.hid hk0
  have H8 := Lib.hid h8
  clear hb2 h2 hch hL stL st2 h8 hk0
  go_wp2
  refine wp_region_held_drew (S := (fun w' => w'.cell? ⟨w2.heap.size, 0, none⟩ = some (.int .u8 (x.kind : Int)) ∧ w'.cell? ⟨w2.heap.size, 1, none⟩ = some (.string ⟨x.text.toArray⟩) ∧ w'.cell? ⟨w2.heap.size, 2, none⟩ = some (.string ⟨x.sub.toArray⟩) ∧ w'.cell? ⟨w2.heap.size, 3, none⟩ = some (.string ⟨x.see.toArray⟩) ∧ w'.cell? ⟨w2.heap.size, 4, none⟩ = some (.slice none 0 0))) (by kernel_rfl) ?_ (fun hHeld0 => ?_)
  · (try dsimp only)
    first | exact cells5 hX | exact cells5 hX.drew | exact cells5 (hX.drewN _) | exact cells5 hX2
  refine wpAnyH_take (i := 0) (v := ?_) rfl (by kernel_rfl) (by kernel_rfl) (by kernel_rfl) (fun _ _ _ h => h) (Or.inl ⟨by kernel_rfl, ?_⟩) (by assumption) ?_
  rotate_left
  · (intro w hSw; (try dsimp only at hSw); go_simp; (first | done | with_reducible rfl))
  (try simp only [Act.put, List.setIfInBounds_toArray, List.set_cons_zero, List.set_cons_succ])
  refine wpAnyH_take (i := 4) (v := ?_) rfl (by kernel_rfl) (by kernel_rfl) (by kernel_rfl) (fun _ _ _ h => h) (Or.inl ⟨by kernel_rfl, ?_⟩) (by assumption) ?_
  rotate_left
  · (intro w hSw; (try dsimp only at hSw); go_simp; (first | done | with_reducible rfl))
  (try simp only [Act.put, List.setIfInBounds_toArray, List.set_cons_zero, List.set_cons_succ])
  refine wpAnyH_ready (rs := [1]) (by kernel_rfl) (by simp) ?_
  refine AllReadyH.cons rfl (fun K hK => ?_) AllReadyH.nil
  go_simp
  refine (top_any (n := r.length) (by rw [← HL.out]; exact HPD.out _) (by omega)).mono ?_
  rintro e w3 ⟨rfl, kk, rfl⟩
  go_wp2_with fail
  refine hK.out _ _ ?_ (fun hHeld1 => ?_)
  · (try dsimp only)
    first | exact cells5 hX | exact cells5 hX.drew | exact cells5 (hX.drewN _) | exact cells5 hX2
  clear hK K hHeld0
  (try simp only [Act.put, List.setIfInBounds_toArray, List.set_cons_zero, List.set_cons_succ])
  refine wpAnyH_take (i := 2) (v := ?_) rfl (by kernel_rfl) (by kernel_rfl) (by kernel_rfl) (fun _ _ _ h => h) (Or.inl ⟨by kernel_rfl, ?_⟩) (by assumption) ?_
  rotate_left
  · (intro w hSw; (try dsimp only at hSw); go_simp; (first | done | with_reducible rfl))
  (try simp only [Act.put, List.setIfInBounds_toArray, List.set_cons_zero, List.set_cons_succ])
  refine wpAnyH_take (i := 3) (v := ?_) rfl (by kernel_rfl) (by kernel_rfl) (by kernel_rfl) (fun _ _ _ h => h) (Or.inl ⟨by kernel_rfl, ?_⟩) (by assumption) ?_
  rotate_left
  · (intro w hSw; (try dsimp only at hSw); go_simp; (first | done | with_reducible rfl))
  (try simp only [Act.put, List.setIfInBounds_toArray, List.set_cons_zero, List.set_cons_succ])
  refine wpAnyH_ready (rs := [5]) (by kernel_rfl) (by simp) ?_
  refine AllReadyH.cons rfl (fun K hK => ?_) AllReadyH.nil
  go_simp
  refine (addTop_any (HPD.out _) HFS.out x (.slice none 0 0) (by rw [HK0.out]; exact Forest.nil _ _) hxt (by omega) (by omega)).mono ?_
  rintro e w4 ⟨rfl, col4, cs4, h4, st4⟩
  have st5 := st4.undrew
  have H4 := Lib.hid h4
  have ST4 := Lib.hid st5
  obtain ⟨_, hX2⟩ := st5.holds H8.out hX
  clear h4 st4 st5
  go_wp2_with fail
  refine hK.out _ _ ?_ (fun hHeld2 => ?_)
  · (try dsimp only)
    first | exact cells5 hX | exact cells5 hX.drew | exact cells5 (hX.drewN _) | exact cells5 hX2
  clear hK K hHeld1
  (try simp only [Act.put, List.setIfInBounds_toArray, List.set_cons_zero, List.set_cons_succ])
  refine wpAnyH_done (by kernel_rfl) ?_ _
  clear hHeld2
  go_wp2
  go_ret
  exact ⟨rfl, col4, fv, cs4, gn1, H4.out.on (by omega), (ST1.out.trans ST2.out).trans ST4.out⟩
end
end Go.Proofs.YtcjmfjccjhdgjaaGreatDoor
namespace Go.Proofs.YtcjmfjccjhdgjaaGreatDoor
open Go.RowKit Go.Bd
end Go.Proofs.YtcjmfjccjhdgjaaGreatDoor
namespace Go.Proofs.YtcjmfjccjhdgjaaGreatDoor
open Go.RowKit Go.Bd
theorem ascii_at {g : ByteArray} (hg : ∀ b ∈ g.data.toList, b.toNat < 128) {i : Nat} (hi : i < g.size) : (g[i]'hi).toNat < 128 :=
  hg _ (List.getElem_mem (l := g.data.toList) (by simpa using hi))
set_option maxRecDepth 100000 in
set_option maxHeartbeats 400000 in
theorem indexRune_bad (g : ByteArray) (w : World) (hg : ∀ b ∈ g.data.toList, b.toNat < 128) :
    Calls Tryz.prog 57 #[.string g, .int .i32 65533] w fun e w' => e = .returned (.int .i64 (-1)) ∧ Below w.heap.size w w' := by
  have HG := Lib.hid hg
  clear hg
  go_enter Tryz.func57, Tryz.ntmps57
  go_wp2
  go_loopg [5, 6] g.size (fun n _ _ wx => ∃ i : Nat, i + n = g.size ∧ wx = w.iter g i)
  case atStart => exact ⟨0, by omega, rfl⟩
  case round =>
    obtain ⟨i, hig, rfl⟩ := hrel
    cases gk with
    | zero =>
      obtain rfl : i = g.size := by omega
      have hnx := run_next_end (P := Tryz.prog) w g g.size
      go_wp2
      go_ret
      exact ⟨rfl, (Below.refl _ _).alloc (Nat.le_refl _) _⟩
    | succ n =>
      have hi : i < g.size := by omega
      have hx := ascii_at HG.out hi
      have hnx := fun ty => run_next_ascii (P := Tryz.prog) w g i ty hi hx
      go_wp2
      all_goals first | omega | skip
      go_roundg n
      case measure => omega
      case rel => exact ⟨i + 1, by omega, rfl⟩
theorem indexByte_high (l : Bs) (hl : ∀ b ∈ l, b.toNat < 128) (c : UInt8) (hc : 128 ≤ c.toNat) : Lib.indexByte l c = -1 := by
  have h := Lib.contains_iff_indexByte l c
  have hn : l.contains c = false := by
    rw [Bool.eq_false_iff]
    intro hm
    have := hl c (by simpa using hm)
    omega
  rw [hn] at h
  have h1 := of_decide_eq_false h.symm
  have h2 := Lib.indexByte_ge l c
  omega
set_option maxRecDepth 100000 in
set_option maxHeartbeats 400000 in
theorem indexRune_valid (g : ByteArray) (r : Int) (w : World) (hg : ∀ b ∈ g.data.toList, b.toNat < 128) (h4 : 4 ≤ g.size) (h5 : g.size ≤ 200) (h1 : 128 ≤ r) (h2 : ¬ r = 65533) (hv : Utf8.valid r = true) :
    Calls Tryz.prog 57 #[.string g, .int .i32 r] w fun e w' => e = .returned (.int .i64 (-1)) ∧ Below w.heap.size w w' := by
  have HG := Lib.hid hg
  clear hg
  obtain ⟨f1, f2, f3⟩ := encode_facts r hv h1
  have hv' : validRune r = true := by rw [← validRune_eq]; exact hv
  have Hv := Lib.hid hv
  clear hv
  have hne : (r == 65533) = false := by simpa using h2
  generalize he : Utf8.encode r = e at f1 f2 f3
  have hce := fun (w : World) => run_convert_int_string (P := Tryz.prog) w 21 9 .i32 r (by rw [Tryz.underlying21]; rfl) Tryz.underlying9
  rw [he] at hce
  have He := Lib.hid he
  clear he
  obtain ⟨n, hn⟩ : ∃ n, e.size = n + 1 := ⟨e.size - 1, by omega⟩
  have hng : n < g.size := by omega
  have hne' : n < e.size := by omega
  have f4 : 128 ≤ (e[n]'hne').toNat := by
    have h := f3 (by omega)
    have e1 : e.size - 1 = n := by omega
    simpa only [e1] using h
  clear f3
  have hx := ascii_at HG.out hng
  have hneq : ((g[n]'hng).toNat : Int) ≠ (e[n]'hne').toNat := by omega
  have hb : (((g[n]'hng).toNat : Int) != (e[n]'hne').toNat) = true := by simpa using hneq
  have hb' : (((g[n]'hng).toNat : Int) == (e[n]'hne').toNat) = false := by simpa using hneq
  clear hneq
  go_enter Tryz.func57, Tryz.ntmps57
  go_wp2_with (go_at_call 86; refine (Tryz.utf8_ValidRune _ _).mono ?_; rintro e w' ⟨rfl, hw⟩; subst hw)
  · go_ret
    exact ⟨rfl, Below.refl _ _⟩
  · go_step3
    go_wp2
    refine wp_loop_rounds 1 ?_
    rw [rounds_succ]
    go_wp2
    go_step3
    go_wp2
    have Hn := Lib.hid hn
    clear hn
    go_quiet (fail)
    go_wp2
    have hbq : Below w'.heap.size w' (w'.drewN nq) := Go.below_drewN (Below.refl _ _) _
    generalize w'.drewN nq = w2 at hbq ⊢
    have q1 : IntKind.i64.wrap ((n : Int) + 1) = (n : Int) + 1 := IntWalk.i64_in _ (by omega)
    have q2 : 0 ≤ (n : Int) + 1 := by omega
    have q3 : ((n : Int) + 1).toNat = n + 1 := by omega
    have q4 : (n : Int) + 1 ≤ (g.size : Int) := by omega
    have e41 : Lib.indexByte (List.take (g.size - (n + 1)) (List.drop (n + 1) g.data.toList)) (e[n]'hne') < 0 := by
      rw [indexByte_high _ (fun b hb => HG.out b (List.mem_of_mem_drop (List.mem_of_mem_take hb))) _ f4]; decide
    go_quiet ((go_at_call 85; exact Calls.quiet_of_same (Tryz.strings_IndexByte _ _ _)))
    clear q1 q2 q3 q4
    go_wp2
    rw [Exit.noGoto_ret]
    simp only [Exit.inBlock, Exit.then]
    rw [Exit.noGoto_ret]
    simp only [Exit.inBlock]
    go_ret
    exact ⟨rfl, Go.below_drewN hbq _⟩
set_option maxRecDepth 100000 in
set_option maxHeartbeats 400000 in
theorem indexRune_none (g : ByteArray) (r : Int) (w : World) (h1 : 128 ≤ r) (h2 : ¬ r = 65533) (hv : validRune r = false) :
    Calls Tryz.prog 57 #[.string g, .int .i32 r] w fun e w' => e = .returned (.int .i64 (-1)) ∧ Below w.heap.size w w' := by
  have hv2 : Lib.validRune r = false := hv
  have hne : (r == 65533) = false := by simpa using h2
  go_enter Tryz.func57, Tryz.ntmps57
  go_wp2_with (go_at_call 86; refine (Tryz.utf8_ValidRune _ _).mono ?_; rintro e w' ⟨rfl, hw⟩; subst hw)
  go_ret
  exact ⟨rfl, Below.refl _ _⟩
theorem indexRune_high (g : ByteArray) (r : Int) (w : World) (hg : ∀ b ∈ g.data.toList, b.toNat < 128) (h4 : 4 ≤ g.size) (h5 : g.size ≤ 200) (h1 : 128 ≤ r) :
    Calls Tryz.prog 57 #[.string g, .int .i32 r] w fun e w' => e = .returned (.int .i64 (-1)) ∧ Below w.heap.size w w' := by
  by_cases h2 : r = 65533
  · subst h2; exact indexRune_bad g w hg
  · by_cases hv : Utf8.valid r = true
    · exact indexRune_valid g r w hg h4 h5 h1 h2 hv
    · exact indexRune_none g r w h1 h2 (by rw [validRune_eq] at hv; simpa using hv)
end Go.Proofs.YtcjmfjccjhdgjaaGreatDoor
namespace Go.Proofs.YtcjmfjccjhdgjaaGreatDoor
open Go.RowKit Go.Bd
theorem decode_bytes (s : ByteArray) (p : Nat) (h : p < s.size) (ha : 128 ≤ (s[p]'h).toNat) :
    p + (Utf8.decode s p).2 ≤ s.size ∧ ∀ j (hj : p + j < s.size), j < (Utf8.decode s p).2 → 128 ≤ (s[p + j]'hj).toNat := by
  have hn : ¬ (s[p]'h).toNat < 128 := by omega
  have hg : ∀ k (hk : p + k < s.size), s.get! (p + k) = s[p + k]'hk := fun k hk => by
    show s.get! (p + k) = _
    simp [ByteArray.get!, getElem!_pos, hk]; rfl
  have key : ∀ k, (decide (p + k < s.size) && (s.get! (p + k)).toNat / 64 == 2) = true → p + k < s.size ∧ ∀ hk : p + k < s.size, 128 ≤ (s[p + k]'hk).toNat := by
    intro k hk
    simp only [Bool.and_eq_true, decide_eq_true_eq, beq_iff_eq] at hk
    refine ⟨hk.1, fun hk' => ?_⟩
    have := hk.2
    rw [hg k hk'] at this
    omega
  have h0 : ∀ (hj : p + 0 < s.size), 128 ≤ (s[p + 0]'hj).toNat := fun _ => ha
  simp only [Utf8.decode, get_at s p h, hn, if_false]
  split
  · rename_i c
    simp only [Bool.and_eq_true] at c
    have k1 := key 1 (by simpa using c.2)
    split
    · refine ⟨by omega, fun j hj hl => ?_⟩
      match j, hl with
      | 0, _ => exact h0 hj
      | 1, _ => exact k1.2 hj
    · exact ⟨by omega, fun j hj hl => by obtain rfl : j = 0 := by simpa using hl
                                         exact h0 hj⟩
  · split
    · rename_i c
      simp only [Bool.and_eq_true] at c
      have k1 := key 1 (by simpa using c.1.2)
      have k2 := key 2 (by simpa using c.2)
      split
      · refine ⟨by omega, fun j hj hl => ?_⟩
        match j, hl with
        | 0, _ => exact h0 hj
        | 1, _ => exact k1.2 hj
        | 2, _ => exact k2.2 hj
      · exact ⟨by omega, fun j hj hl => by obtain rfl : j = 0 := by simpa using hl
                                           exact h0 hj⟩
    · split
      · rename_i c
        simp only [Bool.and_eq_true] at c
        have k1 := key 1 (by simpa using c.1.1.2)
        have k2 := key 2 (by simpa using c.1.2)
        have k3 := key 3 (by simpa using c.2)
        split
        · refine ⟨by omega, fun j hj hl => ?_⟩
          match j, hl with
          | 0, _ => exact h0 hj
          | 1, _ => exact k1.2 hj
          | 2, _ => exact k2.2 hj
          | 3, _ => exact k3.2 hj
        · exact ⟨by omega, fun j hj hl => by obtain rfl : j = 0 := by simpa using hl
                                             exact h0 hj⟩
      · exact ⟨by simp; omega, fun j hj hl => by obtain rfl : j = 0 := by simpa using hl
                                                 exact h0 hj⟩
def NoSign (s : ByteArray) (g : Bs) (p : Nat) : Prop := p ≤ s.size ∧ ∀ j (h : j < s.size), j < p → g.contains s[j] = false
theorem NoSign.all {s : ByteArray} {g : Bs} (h : NoSign s g s.size) : s.data.toList.any (g.contains ·) = false := by
  rw [List.any_eq_false]
  intro x hx
  obtain ⟨j, hj, rfl⟩ := List.mem_iff_getElem.1 hx
  have := h.2 j (by simpa using hj) (by simpa using hj)
  have e : s.data.toList[j] = s[j]'(by simpa using hj) := rfl
  rw [e, this]; decide
theorem any_hit {s : ByteArray} {g : Bs} {p : Nat} (hp : p < s.size) (h : g.contains s[p] = true) : s.data.toList.any (g.contains ·) = true :=
  List.any_eq_true.2 ⟨s[p], List.getElem_mem (l := s.data.toList) (by simpa using hp), h⟩
theorem NoSign.step {s : ByteArray} {g : Bs} {p : Nat} (h : NoSign s g p) (hp : p < s.size) (h1 : g.contains s[p] = false) : NoSign s g (p + 1) := by
  refine ⟨by omega, fun j hj hjp => ?_⟩
  by_cases e : j = p
  · subst e; exact h1
  · exact h.2 j hj (by omega)
theorem NoSign.jump {s : ByteArray} {g : Bs} {p d : Nat} (h : NoSign s g p) (hd : p + d ≤ s.size) (h1 : ∀ j (hj : p + j < s.size), j < d → 128 ≤ (s[p + j]'hj).toNat) (hg : ∀ b ∈ g, b.toNat < 128) : NoSign s g (p + d) := by
  refine ⟨hd, fun j hj hjp => ?_⟩
  by_cases e : j < p
  · exact h.2 j hj e
  · rw [Bool.eq_false_iff]
    intro hc
    have h2 := hg _ (by simpa using hc)
    obtain ⟨k, rfl⟩ : ∃ k, j = p + k := ⟨j - p, by omega⟩
    have := h1 k hj (by omega)
    omega
def HitPost (hit : Bool) (w : World) (e : Ending) (w' : World) : Prop := ∃ r : Int, decide (0 ≤ r) = hit ∧ e = .returned (.int .i64 r) ∧ Below w.heap.size w w'
set_option maxHeartbeats 400000 in
theorem indexAny_short (s g : ByteArray) (w : World) (hg : ∀ b ∈ g.data.toList, b.toNat < 128) (h4 : 4 ≤ g.size) (h5 : g.size ≤ 200) (h8 : s.size ≤ 8) :
    Calls Tryz.prog 36 #[.string s, .string g] w (HitPost (s.data.toList.any (g.data.toList.contains ·)) w) := by
  have HG := Lib.hid hg
  clear hg
  have hemp : g.toList.isEmpty = false := by
    rw [ByteArray.toList_eq]
    cases h : g.data.toList with
    | nil => have := size_list g; rw [h, List.length_nil] at this; omega
    | cons _ _ => rfl
  have hn1 : ((g.size : Int) == 1) = false := beq_eq_false_iff_ne.2 (by omega)
  have h8z : decide ((8 : Int) < (s.size : Int)) = false := decide_eq_false (by omega)
  go_enter Tryz.func36, Tryz.ntmps36
  go_wp2_with (go_at_call 58; refine (Tryz.strings_shouldUseASCIISet _ _).mono ?_; rintro e w' ⟨rfl, hw⟩; rw [hw, h8z])
  go_loopg [9, 10] s.size (fun n _ _ wx => ∃ p : Nat, p + n = s.size ∧ wx.heap[w.heap.size]? = some (.stringIter s p) ∧ Hid (NoSign s g.data.toList p) ∧ Below w.heap.size w wx)
  case atStart => exact ⟨0, by omega, World.iter_heap _ _ _, ⟨by omega, fun _ _ h => absurd h (by omega)⟩, (Below.refl _ _).alloc (Nat.le_refl _) _⟩
  case round =>
    obtain ⟨p, hpn, hit, HN, hb⟩ := hrel
    cases gk with
    | zero =>
      obtain rfl : p = s.size := by omega
      have hnx := fun ty => Lib.run_next_end_at (P := Tryz.prog) wr w.heap.size s s.size ty hit (by omega)
      go_wp2
      go_ret
      exact ⟨-1, by rw [HN.out.all]; rfl, rfl, hb⟩
    | succ n =>
      have hp : p < s.size := by omega
      by_cases hx : (s[p]'hp).toNat < 128
      · have hnx := fun ty => Lib.run_next_ascii_at (P := Tryz.prog) wr w.heap.size s p ty hit hp hx
        have hcon := Lib.contains_iff_indexByte g.data.toList (s[p]'hp)
        have hback : (((s[p]'hp).toNat : Int)).toNat.toUInt8 = s[p]'hp := by simp
        cases hin : g.data.toList.contains (s[p]'hp)
        · rw [hin] at hcon
          have hlt : Lib.indexByte g.data.toList (s[p]'hp) < 0 := by have := of_decide_eq_false hcon.symm; omega
          clear hcon
          have HI := Lib.hid hin
          clear hin
          go_wp2_with (go_at_call 57; refine (Tryz.strings_IndexRune_ascii _ _ _ (by omega) (by omega)).mono ?_; rintro e w' ⟨rfl, hw⟩; rw [hw, hback])
          go_roundg n
          case measure => omega
          case rel => exact ⟨p + 1, by omega, Lib.iterAt_heap _ _ _ _ _ hit, HN.out.step hp HI.out, Lib.below_iterAt hb (Nat.le_refl _) _ _⟩
        · rw [hin] at hcon
          have hge : 0 ≤ Lib.indexByte g.data.toList (s[p]'hp) := of_decide_eq_true hcon.symm
          clear hcon
          have HI := Lib.hid hin
          clear hin
          go_wp2_with (go_at_call 57; refine (Tryz.strings_IndexRune_ascii _ _ _ (by omega) (by omega)).mono ?_; rintro e w' ⟨rfl, hw⟩; rw [hw, hback])
          go_ret
          exact ⟨(p : Int), by rw [any_hit hp HI.out]; simp, rfl, Lib.below_iterAt hb (Nat.le_refl _) _ _⟩
      · obtain ⟨d1, d2⟩ := decode_high s p hp (by omega)
        obtain ⟨d3, d4⟩ := decode_bytes s p hp (by omega)
        have D4 := Lib.hid d4
        clear d4
        have hnx := fun ty => Lib.run_next_any_at (P := Tryz.prog) wr w.heap.size s p ty hit hp
        generalize hc : (Utf8.decode s p).1 = c at d1 hnx
        generalize hd : (Utf8.decode s p).2 = d at d2 d3 D4 hnx
        clear hc hd
        go_wp2_with (go_at_call 57; refine (indexRune_high _ _ _ HG.out h4 h5 (by omega)).mono ?_; rintro e w2 ⟨rfl, hb2⟩)
        go_roundg (s.size - (p + d))
        case measure => omega
        case rel => exact ⟨p + d, by omega, (hb2.block _ (by rw [Lib.iterAt_size]; exact (Array.getElem?_eq_some_iff.1 hit).1)).trans (Lib.iterAt_heap _ _ _ _ _ hit), HN.out.jump d3 D4.out HG.out, (Lib.below_iterAt hb (Nat.le_refl _) _ _).trans (hb2.mono (by rw [Lib.iterAt_size]; exact hb.size))⟩
end Go.Proofs.YtcjmfjccjhdgjaaGreatDoor
namespace Go.Proofs.YtcjmfjccjhdgjaaGreatDoor
open Go.RowKit Go.Bd
theorem set_info : (Tryz.prog.info? 99).map (fun i => (i.zero, i.size)) = some (some (.agg (Array.replicate 256 (.bool false))), 256) := by kernel_rfl
theorem trimS_blank (l : Bs) : Lib.trimS l [32, 9] = trim l := by
  have e : (fun c => ([32, 9] : Bs).contains c) = Go.Bd.blank := by
    funext c
    rw [Bool.eq_iff_iff, blank_iff]
    simp only [List.contains_eq_mem, List.mem_cons, List.not_mem_nil, or_false, decide_eq_true_eq, ← UInt8.toNat_inj]
    simp; omega
  rw [← dropLR, Lib.trimS, Lib.trimLeftS, Lib.trimRightS, dropL, dropR, e]
theorem strTrim_any (s : ByteArray) (w : World) (hs : s.size ≤ 9223372036854775807) :
    Calls Tryz.prog 29 #[.string s, .string ⟨#[32, 9]⟩] w fun e w' => e = .returned (strV (trim s.data.toList)) ∧ Below w.heap.size w w' := by
  refine (Any.strings_Trim_laid Tryz.lays160 set_info s ⟨#[32, 9]⟩ w hs (by decide) (ascii_of_all (by decide))).mono ?_
  rintro e w' ⟨he, hb⟩
  refine ⟨?_, hb⟩
  rw [he]
  exact congrArg (fun l : Bs => Ending.returned (strV l)) (trimS_blank _)
end Go.Proofs.YtcjmfjccjhdgjaaGreatDoor
namespace Go.Proofs.YtcjmfjccjhdgjaaGreatDoor
open Go.RowKit Go.Bd
theorem indexAny_any (chars : Bs) : ∀ l : Bs, decide (0 ≤ Lib.indexAny l chars) = l.any (chars.contains ·)
  | [] => rfl
  | b :: l => by
    have ih := indexAny_any chars l
    have hge := Lib.indexAny_ge chars l
    rw [List.any_cons, ← ih, Lib.indexAny]
    cases h : chars.contains b
    · simp only [Bool.false_or, Bool.false_eq_true, if_false]
      by_cases h1 : Lib.indexAny l chars == -1
      · rw [if_pos h1]
        have : Lib.indexAny l chars = -1 := by simpa using h1
        rw [this]
      · rw [if_neg h1]
        have : Lib.indexAny l chars ≠ -1 := by simpa using h1
        rw [Bool.eq_iff_iff, decide_eq_true_eq, decide_eq_true_eq]; omega
    · simp
theorem containsAny_any (s g : ByteArray) (w : World) (hg : ∀ b ∈ g.data.toList, b.toNat < 128) (h4 : 4 ≤ g.size) (h5 : g.size ≤ 200) (hs : s.size < 4294967281) :
    Calls Tryz.prog 154 #[.string s, .string g] w fun e w' => e = .returned (.bool (s.data.toList.any (g.data.toList.contains ·))) ∧ Below w.heap.size w w' := by
  have c : Calls Tryz.prog 36 #[.string s, .string g] w (HitPost (s.data.toList.any (g.data.toList.contains ·)) w) := by
    by_cases h8 : s.size ≤ 8
    · exact indexAny_short s g w hg h4 h5 h8
    · refine (Tryz.strings_IndexAny_long (zero_of_info set_info).1 s g w (by omega) (by omega) hs (by omega) ?_).mono ?_
      · intro j b hj
        exact hg b (List.mem_of_getElem? hj)
      · rintro e w' ⟨he, hw⟩
        refine ⟨_, ?_, he, ?_⟩
        · exact indexAny_any _ _
        · rw [hw]
          exact ((Below.refl _ _).alloc (Nat.le_refl _) _).alloc (by simp) _
  generalize s.data.toList.any (g.data.toList.contains ·) = hit at c ⊢
  go_enter Tryz.func154, Tryz.ntmps154
  go_wp2_with (go_at_call 36; refine c.mono ?_; rintro e w' ⟨r, hr, rfl, hb⟩)
  go_ret
  exact ⟨rfl, hb⟩
def anySign (l : Bs) : Bool := l.any (signs.contains ·)
theorem containsSigns_any (s : ByteArray) (w : World) (hs : s.size < 4294967281) :
    Calls Tryz.prog 154 #[.string s, .string ⟨#[59, 62, 60, 40, 41]⟩] w fun e w' => e = .returned (.bool (anySign s.data.toList)) ∧ Below w.heap.size w w' :=
  containsAny_any s ⟨#[59, 62, 60, 40, 41]⟩ w (by decide) (by decide) (by decide) hs
set_option maxHeartbeats 400000 in
theorem termPart_any (s : ByteArray) (w : World) (hs : s.size < 4294967281) :
    Calls Tryz.prog 147 #[.string s] w fun e w' => e = .returned (.tuple #[strV (trim s.data.toList), .bool (partB (trim s.data.toList))]) ∧ Below w.heap.size w w' := by
  have hle := trim_le s.data.toList
  rw [← size_list] at hle
  have ht := strTrim_any s w (by omega)
  have Hp : Hid (partB (trim s.data.toList) = (!(trim s.data.toList).isEmpty && !anySign (trim s.data.toList))) := partB_signs _
  obtain ⟨l, hl⟩ : ∃ l, l = trim s.data.toList := ⟨_, rfl⟩
  rw [← hl] at ht Hp hle ⊢
  clear hl
  rw [strV] at ht
  by_cases he : l = []
  · subst he
    go_enter Tryz.func147, Tryz.ntmps147
    go_wp2_with (go_at_call 29; refine ht.mono ?_; rintro e w1 ⟨rfl, hb⟩)
    go_ret2
    exact ⟨rfl, hb⟩
  · have h1 : l.isEmpty = false := by simpa using he
    go_enter Tryz.func147, Tryz.ntmps147
    go_wp2_with (first
      | (go_at_call 29; refine ht.mono ?_; rintro e w1 ⟨rfl, hb⟩)
      | (go_at_call 154; refine (containsSigns_any _ _ (by rw [size_mk]; omega)).mono ?_; rintro e w2 ⟨rfl, hb2⟩))
    go_ret2
    exact ⟨congrArg Ending.returned (by rw [Hp.out, h1]; rfl), hb.trans (hb2.mono hb.size)⟩
end Go.Proofs.YtcjmfjccjhdgjaaGreatDoor
namespace Go.Bd
theorem first_cons (x : UInt8) (l : Bs) (c : UInt8) : first (x :: l) c.toNat = if x = c then 0 else first l c.toNat + 1 := by
  unfold first
  rw [List.findIdx_cons]
  by_cases h : x = c
  · subst h; simp
  · have : ((x.toNat : Int) == (c.toNat : Int)) = false := by
      rw [beq_eq_false_iff_ne]; intro e; exact h (UInt8.toNat_inj.1 (by omega))
    rw [this, if_neg h]; rfl
theorem indexByte_first (c : UInt8) : ∀ l : Bs, Lib.indexByte l c = if first l c.toNat < l.length then (first l c.toNat : Int) else -1
  | [] => rfl
  | x :: l => by
    have ih := indexByte_first c l
    have hle := first_le l (c.toNat : Int)
    rw [first_cons, Lib.indexByte, ih]
    by_cases h : x = c
    · subst h; simp
    · rw [if_neg (by simpa using h), if_neg h]
      by_cases h2 : first l c.toNat < l.length
      · rw [if_pos h2, if_neg (by rw [beq_iff_eq]; omega), if_pos (by simp only [List.length_cons]; omega)]; omega
      · rw [if_neg h2, if_pos (by decide), if_neg (by simp only [List.length_cons]; omega)]
theorem cut_hit {l : Bs} {c : UInt8} (h : first l c.toNat < l.length) : Lib.cut l [c] = (l.take (first l c.toNat), l.drop (first l c.toNat + 1), true) := by
  rw [Lib.cut, Lib.index_one, indexByte_first, if_pos h, if_pos (by omega)]; rfl
theorem cut_none {l : Bs} {c : UInt8} (h : l.length ≤ first l c.toNat) : Lib.cut l [c] = (l, [], false) := by
  rw [Lib.cut, Lib.index_one, indexByte_first, if_neg (by omega)]
def two (l : Bs) (m : Nat) : Bool := partB (trim (l.take m)) && partB (trim (l.drop (m + 1)))
theorem mem_dropL {l : Bs} {c : UInt8} (h : c ∈ l) (hb : blank c = false) : c ∈ dropL l := by
  unfold dropL
  induction l with
  | nil => cases h
  | cons x l ih =>
    by_cases hx : blank x = true
    · rw [List.dropWhile_cons_of_pos hx]
      rcases List.mem_cons.1 h with e | e
      · subst e; rw [hb] at hx; cases hx
      · exact ih e
    · rw [List.dropWhile_cons_of_neg hx]; exact h
theorem mem_trim {l : Bs} {c : UInt8} (h : c ∈ l) (hb : blank c = false) : c ∈ trim l := by
  unfold trim dropR
  rw [List.mem_reverse]
  exact mem_dropL (List.mem_reverse.2 (mem_dropL h hb)) hb
theorem partB_mem {l : Bs} {c : UInt8} (h : c ∈ l) (hc : c ∈ signs) : partB l = false := by
  rw [partB_signs]
  have : l.any (signs.contains ·) = true := List.any_eq_true.2 ⟨c, h, by simpa using hc⟩
  rw [this]; simp
theorem first_mem {l : Bs} {c : UInt8} (h : first l c.toNat < l.length) : l[first l c.toNat]'h = c := by
  have := List.findIdx_getElem (w := h)
  have e : (((l[first l c.toNat]'h).toNat : Int) == c.toNat) = true := this
  exact UInt8.toNat_inj.1 (by have := (beq_iff_eq.1 e); omega)
theorem mem_take_first {l : Bs} {c : UInt8} {m : Nat} (h : first l c.toNat < l.length) (hm : first l c.toNat < m) : c ∈ l.take m := by
  rw [List.mem_iff_getElem]
  exact ⟨first l c.toNat, by simp; omega, by rw [List.getElem_take, first_mem h]⟩
theorem mem_drop_first {l : Bs} {c : UInt8} {m : Nat} (h : first l c.toNat < l.length) (hm : m ≤ first l c.toNat) : c ∈ l.drop m := by
  rw [List.mem_iff_getElem]
  refine ⟨first l c.toNat - m, by simp; omega, ?_⟩
  rw [List.getElem_drop]
  have e : m + (first l c.toNat - m) = first l c.toNat := by omega
  simp only [e]
  exact first_mem h
theorem parseB_long {l : Bs} (h : 240 < l.length) : parseB l = none := by rw [parseB, if_pos h]
theorem e59 : ((59 : UInt8).toNat : Int) = 59 := rfl
theorem e62 : ((62 : UInt8).toNat : Int) = 62 := rfl
theorem parseB_sub {l : Bs} (hl : l.length ≤ 240) (h : first l 59 < l.length) :
    parseB l = if two l (first l 59) = true then some (trim (l.take (first l 59)), trim (l.drop (first l 59 + 1)), []) else none := by
  have f59 := @first_mem l 59 (by rw [e59]; exact h)
  simp only [e59] at f59
  rw [parseB, if_neg (by omega)]
  rcases Nat.lt_or_ge (first l 62) (first l 59) with hlt | hge
  · have hm : min (first l 59) (first l 62) = first l 62 := Nat.min_eq_right (Nat.le_of_lt hlt)
    have n1 : partB (trim (l.take (first l 59))) = false :=
      partB_mem (c := 62) (mem_trim (mem_take_first (by rw [e62]; omega) (by rw [e62]; exact hlt)) (by decide)) (by decide)
    have n2 : partB (trim (l.drop (first l 62 + 1))) = false :=
      partB_mem (c := 59) (mem_trim (mem_drop_first (by rw [e59]; exact h) (by rw [e59]; omega)) (by decide)) (by decide)
    rw [hm, if_neg (show ¬ two l (first l 59) = true by simp [two, n1]), n2]
    split
    · rfl
    · rw [if_neg (by omega)]; simp
  · have hm : min (first l 59) (first l 62) = first l 59 := Nat.min_eq_left hge
    rw [hm, two]
    cases h1 : partB (trim (l.take (first l 59)))
    · simp
    · rw [if_neg (by simp), if_neg (by omega)]
      cases h2 : partB (trim (l.drop (first l 59 + 1)))
      · simp
      · rw [if_neg (by simp), if_pos, if_pos (by simp)]
        rw [List.getD_eq_getElem?_getD, List.getElem?_eq_getElem h, Option.getD_some, f59]; rfl
theorem parseB_see {l : Bs} (hl : l.length ≤ 240) (h0 : first l 59 = l.length) (h : first l 62 < l.length) :
    parseB l = if two l (first l 62) = true then some (trim (l.take (first l 62)), [], trim (l.drop (first l 62 + 1))) else none := by
  have f62 := @first_mem l 62 (by rw [e62]; exact h)
  simp only [e62] at f62
  have hm : min (first l 59) (first l 62) = first l 62 := Nat.min_eq_right (by omega)
  rw [parseB, if_neg (by omega), hm, two]
  cases h1 : partB (trim (l.take (first l 62)))
  · simp
  · rw [if_neg (by simp), if_neg (by omega)]
    cases h2 : partB (trim (l.drop (first l 62 + 1)))
    · simp
    · rw [if_neg (by simp), if_neg, if_pos (by simp)]
      rw [List.getD_eq_getElem?_getD, List.getElem?_eq_getElem h, Option.getD_some, f62]; decide
theorem parseB_one {l : Bs} (hl : l.length ≤ 240) (h0 : first l 59 = l.length) (h : first l 62 = l.length) :
    parseB l = if partB (trim l) = true then some (trim l, [], []) else none := by
  have hm : min (first l 59) (first l 62) = l.length := by omega
  rw [parseB, if_neg (by omega), hm, List.take_of_length_le (Nat.le_refl _), if_pos rfl]
  cases h1 : partB (trim l) <;> simp
end Go.Bd
namespace Go.Proofs.YtcjmfjccjhdgjaaGreatDoor
open Go.RowKit Go.Bd
theorem tell1_any (a b : ByteArray) (w : World) : Calls Tryz.prog 150 #[.string a, .string b] w fun e w' => e = .returned (.agg #[.string a, .string b, .string ⟨#[]⟩]) ∧ Below w.heap.size w w' := by
  go_enter Tryz.func150, Tryz.ntmps150
  go_wp2
  go_returns
  exact ⟨rfl, (Below.refl _ _).alloc (Nat.le_refl _) _⟩
theorem tell2_any (a b : ByteArray) (w : World) : Calls Tryz.prog 151 #[.string a, .string b] w fun e w' => e = .returned (.agg #[.string a, .string ⟨#[]⟩, .string b]) ∧ Below w.heap.size w w' := by
  go_enter Tryz.func151, Tryz.ntmps151
  go_wp2
  go_returns
  exact ⟨rfl, (Below.refl _ _).alloc (Nat.le_refl _) _⟩
theorem tell3_any (a b : ByteArray) (w : World) : Calls Tryz.prog 152 #[.string a, .string b] w fun e w' => e = .returned (.agg #[.string a, .string ⟨#[]⟩, .string ⟨#[]⟩]) ∧ Below w.heap.size w w' := by
  go_enter Tryz.func152, Tryz.ntmps152
  go_wp2
  go_returns
  exact ⟨rfl, (Below.refl _ _).alloc (Nat.le_refl _) _⟩
theorem forms_any (w : World) : Calls Tryz.prog 145 #[] w fun e w' => e = .returned (.agg #[.string ⟨#[59]⟩, .func (.func 150) #[] #[], .string ⟨#[62]⟩, .func (.func 151) #[] #[], .string ⟨#[]⟩, .func (.func 152) #[] #[]]) ∧ Below w.heap.size w w' := by
  go_enter Tryz.func145, Tryz.ntmps145
  go_wp2
  go_returns
  exact ⟨rfl, (Below.refl _ _).alloc (Nat.le_refl _) _⟩
def formsV : Value := .agg #[.string ⟨#[59]⟩, .func (.func 150) #[] #[], .string ⟨#[62]⟩, .func (.func 151) #[] #[], .string ⟨#[]⟩, .func (.func 152) #[] #[]]
theorem form0 (w : World) : (Instr.index 208 formsV (.int .i64 0)).run Tryz.prog w = .ok (.agg #[.string ⟨#[59]⟩, .func (.func 150) #[] #[]]) w := by kernel_rfl
theorem form1 (w : World) : (Instr.index 208 formsV (.int .i64 1)).run Tryz.prog w = .ok (.agg #[.string ⟨#[62]⟩, .func (.func 151) #[] #[]]) w := by kernel_rfl
theorem form2 (w : World) : (Instr.index 208 formsV (.int .i64 2)).run Tryz.prog w = .ok (.agg #[.string ⟨#[]⟩, .func (.func 152) #[] #[]]) w := by kernel_rfl
def parseO : Option (Bs × Bs × Bs) → Value
  | none => .tuple #[.agg #[strV [], strV [], strV []], .bool false]
  | some (a, b, c) => .tuple #[.agg #[strV a, strV b, strV c], .bool true]
def parseP (l : Bs) : Value := parseO (parseB l)
set_option maxHeartbeats 400000 in
theorem parse_long (s : ByteArray) (w : World) (hs : s.size ≤ 9223372036854775807) (hl : 240 < s.size) :
    Calls Tryz.prog 136 #[.string s] w fun e w' => e = .returned (parseP s.data.toList) ∧ Below w.heap.size w w' := by
  have hv : Hid (parseP s.data.toList = .tuple #[.agg #[strV [], strV [], strV []], .bool false]) := by
    unfold Hid; rw [parseP, parseB_long (by simpa using hl)]; rfl
  go_enter Tryz.func136, Tryz.ntmps136
  go_wp2
  go_returns
  exact ⟨congrArg Ending.returned hv.out.symm, (Below.refl _ _).alloc (Nat.le_refl _) _⟩
theorem cut59_hit (s : ByteArray) (m : Int) (w : World) (hs : s.size ≤ 240) (hm : w.cell? ⟨0, 0, none⟩ = some (.int .i64 m)) (h : first s.data.toList 59 < s.size) :
    Calls Tryz.prog 146 #[.string s, .string ⟨#[59]⟩] w fun e w' => e = .returned (.tuple #[strV (s.data.toList.take (first s.data.toList 59)), strV (s.data.toList.drop (first s.data.toList 59 + 1)), .bool true]) ∧ Below w.heap.size w w' := by
  refine (Tryz.strings_Cut s ⟨#[59]⟩ m w (by omega) hm).mono ?_
  rintro e w' ⟨he, n, hw⟩
  refine ⟨?_, hw ▸ Go.below_drewN (Below.refl _ _) _⟩
  have hc := @cut_hit s.data.toList 59 (by rw [e59]; simpa using h)
  rw [e59] at hc
  rw [he, show (⟨#[59]⟩ : ByteArray).data.toList = [59] from rfl, hc]; rfl
structure St (w W : World) (g : Nat) (sg : ByteArray) (f : Value) : Prop where
  res : Holds W w.heap.size 195 #[.string ⟨#[]⟩, .string ⟨#[]⟩, .string ⟨#[]⟩]
  form : Holds W g 207 #[.string sg, f]
  below : Below w.heap.size w W
  apart : w.heap.size < g
theorem St.later {w W W' : World} {g : Nat} {sg : ByteArray} {f : Value} (h : St w W g sg f) (hb : Below W.heap.size W W') : St w W' g sg f :=
  ⟨h.res.below hb h.res.lt, h.form.below hb h.form.lt, h.below.trans (hb.mono h.below.size), h.apart⟩
theorem St.first {w w1 : World} (sg : ByteArray) (f : Value) (hb : Below (w.alloc (.cells #[.string ⟨#[]⟩, .string ⟨#[]⟩, .string ⟨#[]⟩] 195)).heap.size (w.alloc (.cells #[.string ⟨#[]⟩, .string ⟨#[]⟩, .string ⟨#[]⟩] 195)) w1) :
    St w (w1.alloc (.cells #[.string sg, f] 207)) w1.heap.size sg f := by
  have hs1 : w.heap.size < w1.heap.size := by have := hb.size; simp at this; omega
  exact ⟨((Holds.new w _ _).below hb (by simp)).alloc _, Holds.new w1 _ _, (((Below.refl _ _).alloc (Nat.le_refl _) _).trans (hb.mono (by simp))).alloc (by omega) _, hs1⟩
theorem St.next {w W : World} {g : Nat} {sg : ByteArray} {f : Value} (h : St w W g sg f) (sg' : ByteArray) (f' : Value) : St w (W.alloc (.cells #[.string sg', f'] 207)) W.heap.size sg' f' :=
  ⟨h.res.alloc _, Holds.new W _ _, h.below.alloc h.below.size _, h.res.lt⟩
set_option maxHeartbeats 1000000 in
theorem parse_sub (s : ByteArray) (m : Int) (w : World) (hs : s.size ≤ 240) (hm : w.cell? ⟨0, 0, none⟩ = some (.int .i64 m)) (h : first s.data.toList 59 < s.size) :
    Calls Tryz.prog 136 #[.string s] w fun e w' => e = .returned (parseP s.data.toList) ∧ Below w.heap.size w w' := by
  have hv := Lib.hid (congrArg parseO (parseB_sub (l := s.data.toList) (by simpa using hs) (by simpa using h)))
  have f0 := form0
  have ff := forms_any
  change ∀ w, Calls _ _ _ _ (fun e w' => e = .returned formsV ∧ _) at ff
  generalize formsV = fv at f0 ff
  have hw0 := block_lt_of_cell hm
  have l1 : s.data.toList.length ≤ 240 := by simpa using hs
  go_enter Tryz.func136, Tryz.ntmps136
  go_wp2_with fail
  refine (ff _).mono ?_
  rintro e w1 ⟨rfl, hb1⟩
  go_wp2_with fail
  refine wp_loop_rounds 1 ?_
  rw [rounds_succ]
  go_wp2_with fail
  have S1 := St.first ⟨#[59]⟩ (.func (.func 150) #[] #[]) hb1
  obtain ⟨W1, hW1⟩ : ∃ W, W = w1.alloc (.cells #[.string ⟨#[59]⟩, .func (.func 150) #[] #[]] 207) := ⟨_, rfl⟩
  rw [← hW1] at S1 ⊢
  clear hW1 hb1
  generalize w1.heap.size = g at S1 ⊢
  refine (cut59_hit s m W1 hs ((S1.below.cell (p := ⟨0, 0, none⟩) hw0).trans hm) h).mono ?_
  rintro e w2 ⟨rfl, hb2⟩
  have S2 := S1.later hb2
  clear S1 hb2
  rw [strV, strV]
  go_wp2_with fail
  refine (termPart_any _ _ (by rw [size_mk, List.length_take]; omega)).mono ?_
  rintro e w3 ⟨rfl, hb3⟩
  have S3 := S2.later hb3
  clear S2 hb3
  have k0 := (S3.res.cell 0); have k1 := (S3.res.cell 1); have k2 := (S3.res.cell 2)
  have z0 := (S3.res.free 0); have z1 := (S3.res.free 1); have z2 := (S3.res.free 2)
  rw [show ∀ l : Bs, (ByteArray.mk l.toArray).data.toList = l from fun l => by simp]
  cases p1 : partB (trim (s.data.toList.take (first s.data.toList 59)))
  · go_wp2
    refine bodyPost_ret (v := (.tuple #[.agg #[strV [], strV [], strV []], .bool false])) (by simp [results, Tryz.results136, go_sem, k0, k1, k2, strV]) rfl ?_
    refine ⟨congrArg Ending.returned ?_, ?_⟩
    · rw [show parseP s.data.toList = _ from hv.out, two, p1]; rfl
    · have S3b := S3.below
      go_grown
  · go_wp2_with fail
    clear k0 k1 k2 z0 z1 z2
    refine (termPart_any _ _ (by rw [size_mk, List.length_drop]; omega)).mono ?_
    rintro e w4 ⟨rfl, hb4⟩
    have S4 := S3.later hb4
    clear S3 hb4
    rw [show ∀ l : Bs, (ByteArray.mk l.toArray).data.toList = l from fun l => by simp]
    cases p2 : partB (trim (s.data.toList.drop (first s.data.toList 59 + 1)))
    · have k0 := (S4.res.cell 0); have k1 := (S4.res.cell 1); have k2 := (S4.res.cell 2)
      have z0 := (S4.res.free 0); have z1 := (S4.res.free 1); have z2 := (S4.res.free 2)
      go_wp2
      refine bodyPost_ret (v := (.tuple #[.agg #[strV [], strV [], strV []], .bool false])) (by simp [results, Tryz.results136, go_sem, k0, k1, k2, strV]) rfl ?_
      refine ⟨congrArg Ending.returned ?_, ?_⟩
      · rw [show parseP s.data.toList = _ from hv.out, two, p1, p2]; rfl
      · have S4b := S4.below
        go_grown
    · have q1 := S4.form.cell 1
      rw [strV, strV]
      go_wp2_with fail
      clear q1
      refine (tell1_any _ _ _).mono ?_
      rintro e w5 ⟨rfl, hb5⟩
      have S5 := S4.later hb5
      have k0 := (S5.res.cell 0); have k1 := (S5.res.cell 1); have k2 := (S5.res.cell 2)
      have z0 := (S5.res.free 0); have z1 := (S5.res.free 1); have z2 := (S5.res.free 2)
      go_wp2
      refine bodyPost_ret (v := (.tuple #[.agg #[strV (trim (s.data.toList.take (first s.data.toList 59))), strV (trim (s.data.toList.drop (first s.data.toList 59 + 1))), strV []], .bool true])) (by simp [results, Tryz.results136, go_sem, k0, k1, k2, strV]) rfl ?_
      refine ⟨congrArg Ending.returned ?_, ?_⟩
      · rw [show parseP s.data.toList = _ from hv.out, two, p1, p2]; rfl
      · have S5b := S5.below
        go_grown
end Go.Proofs.YtcjmfjccjhdgjaaGreatDoor
namespace Go.Proofs.YtcjmfjccjhdgjaaGreatDoor
open Go.RowKit Go.Bd
theorem cut59_none (s : ByteArray) (m : Int) (w : World) (hs : s.size ≤ 240) (hm : w.cell? ⟨0, 0, none⟩ = some (.int .i64 m)) (h : first s.data.toList 59 = s.data.toList.length) :
    Calls Tryz.prog 146 #[.string s, .string ⟨#[59]⟩] w fun e w' => e = .returned (.tuple #[.string s, strV [], .bool false]) ∧ Below w.heap.size w w' := by
  refine (Tryz.strings_Cut s ⟨#[59]⟩ m w (by omega) hm).mono ?_
  rintro e w' ⟨he, n, hw⟩
  refine ⟨?_, hw ▸ Go.below_drewN (Below.refl _ _) _⟩
  have hc := @cut_none s.data.toList 59 (by rw [e59]; omega)
  rw [he, show (⟨#[59]⟩ : ByteArray).data.toList = [59] from rfl, hc]; simp [strV]
theorem cut62_none (s : ByteArray) (m : Int) (w : World) (hs : s.size ≤ 240) (hm : w.cell? ⟨0, 0, none⟩ = some (.int .i64 m)) (h : first s.data.toList 62 = s.data.toList.length) :
    Calls Tryz.prog 146 #[.string s, .string ⟨#[62]⟩] w fun e w' => e = .returned (.tuple #[.string s, strV [], .bool false]) ∧ Below w.heap.size w w' := by
  refine (Tryz.strings_Cut s ⟨#[62]⟩ m w (by omega) hm).mono ?_
  rintro e w' ⟨he, n, hw⟩
  refine ⟨?_, hw ▸ Go.below_drewN (Below.refl _ _) _⟩
  have hc := @cut_none s.data.toList 62 (by rw [e62]; omega)
  rw [he, show (⟨#[62]⟩ : ByteArray).data.toList = [62] from rfl, hc]; simp [strV]
theorem cut62_hit (s : ByteArray) (m : Int) (w : World) (hs : s.size ≤ 240) (hm : w.cell? ⟨0, 0, none⟩ = some (.int .i64 m)) (h : first s.data.toList 62 < s.size) :
    Calls Tryz.prog 146 #[.string s, .string ⟨#[62]⟩] w fun e w' => e = .returned (.tuple #[strV (s.data.toList.take (first s.data.toList 62)), strV (s.data.toList.drop (first s.data.toList 62 + 1)), .bool true]) ∧ Below w.heap.size w w' := by
  refine (Tryz.strings_Cut s ⟨#[62]⟩ m w (by omega) hm).mono ?_
  rintro e w' ⟨he, n, hw⟩
  refine ⟨?_, hw ▸ Go.below_drewN (Below.refl _ _) _⟩
  have hc := @cut_hit s.data.toList 62 (by rw [e62]; simpa using h)
  rw [e62] at hc
  rw [he, show (⟨#[62]⟩ : ByteArray).data.toList = [62] from rfl, hc]; rfl
set_option maxHeartbeats 1000000 in
theorem parse_see (s : ByteArray) (m : Int) (w : World) (hs : s.size ≤ 240) (hm : w.cell? ⟨0, 0, none⟩ = some (.int .i64 m)) (h0 : Hid (first s.data.toList 59 = s.data.toList.length)) (h : first s.data.toList 62 < s.size) :
    Calls Tryz.prog 136 #[.string s] w fun e w' => e = .returned (parseP s.data.toList) ∧ Below w.heap.size w w' := by
  have hv := Lib.hid (congrArg parseO (parseB_see (l := s.data.toList) (by simpa using hs) h0.out (by simpa using h)))
  have f0 := form0
  have f1 := form1
  have ff := forms_any
  change ∀ w, Calls _ _ _ _ (fun e w' => e = .returned formsV ∧ _) at ff
  generalize formsV = fv at f0 f1 ff
  have hw0 := block_lt_of_cell hm
  have l1 : s.data.toList.length ≤ 240 := by simpa using hs
  go_enter Tryz.func136, Tryz.ntmps136
  go_wp2_with fail
  refine (ff _).mono ?_
  rintro e w1 ⟨rfl, hb1⟩
  go_wp2_with fail
  refine wp_loop_rounds 2 ?_
  rw [rounds_succ]
  go_wp2_with fail
  have S1 := St.first ⟨#[59]⟩ (.func (.func 150) #[] #[]) hb1
  obtain ⟨W1, hW1⟩ : ∃ W, W = w1.alloc (.cells #[.string ⟨#[59]⟩, .func (.func 150) #[] #[]] 207) := ⟨_, rfl⟩
  rw [← hW1] at S1 ⊢
  clear hW1 hb1
  generalize w1.heap.size = g at S1 ⊢
  refine (cut59_none s m W1 hs ((S1.below.cell (p := ⟨0, 0, none⟩) hw0).trans hm) h0.out).mono ?_
  rintro e w2 ⟨rfl, hb2⟩
  have S2' := S1.later hb2
  clear S1 hb2
  rw [strV]
  go_wp2_with fail
  rw [rounds_succ]
  go_wp2_with fail
  have S1 := S2'.next ⟨#[62]⟩ (.func (.func 151) #[] #[])
  clear S2'
  obtain ⟨W2, hW2⟩ : ∃ W, W = w2.alloc (.cells #[.string ⟨#[62]⟩, .func (.func 151) #[] #[]] 207) := ⟨_, rfl⟩
  rw [← hW2] at S1 ⊢
  clear hW2
  generalize w2.heap.size = g2 at S1 ⊢
  refine (cut62_hit s m W2 hs ((S1.below.cell (p := ⟨0, 0, none⟩) hw0).trans hm) h).mono ?_
  rintro e w2 ⟨rfl, hb2⟩
  have S2 := S1.later hb2
  clear S1 hb2
  rw [strV, strV]
  go_wp2_with fail
  refine (termPart_any _ _ (by rw [size_mk, List.length_take]; omega)).mono ?_
  rintro e w3 ⟨rfl, hb3⟩
  have S3 := S2.later hb3
  clear S2 hb3
  have k0 := (S3.res.cell 0); have k1 := (S3.res.cell 1); have k2 := (S3.res.cell 2)
  have z0 := (S3.res.free 0); have z1 := (S3.res.free 1); have z2 := (S3.res.free 2)
  rw [show ∀ l : Bs, (ByteArray.mk l.toArray).data.toList = l from fun l => by simp]
  cases p1 : partB (trim (s.data.toList.take (first s.data.toList 62)))
  · go_wp2
    refine bodyPost_ret (v := (.tuple #[.agg #[strV [], strV [], strV []], .bool false])) (by simp [results, Tryz.results136, go_sem, k0, k1, k2, strV]) rfl ?_
    refine ⟨congrArg Ending.returned ?_, ?_⟩
    · rw [show parseP s.data.toList = _ from hv.out, two, p1]; rfl
    · have S3b := S3.below
      go_grown
  · go_wp2_with fail
    clear k0 k1 k2 z0 z1 z2
    refine (termPart_any _ _ (by rw [size_mk, List.length_drop]; omega)).mono ?_
    rintro e w4 ⟨rfl, hb4⟩
    have S4 := S3.later hb4
    clear S3 hb4
    rw [show ∀ l : Bs, (ByteArray.mk l.toArray).data.toList = l from fun l => by simp]
    cases p2 : partB (trim (s.data.toList.drop (first s.data.toList 62 + 1)))
    · have k0 := (S4.res.cell 0); have k1 := (S4.res.cell 1); have k2 := (S4.res.cell 2)
      have z0 := (S4.res.free 0); have z1 := (S4.res.free 1); have z2 := (S4.res.free 2)
      go_wp2
      refine bodyPost_ret (v := (.tuple #[.agg #[strV [], strV [], strV []], .bool false])) (by simp [results, Tryz.results136, go_sem, k0, k1, k2, strV]) rfl ?_
      refine ⟨congrArg Ending.returned ?_, ?_⟩
      · rw [show parseP s.data.toList = _ from hv.out, two, p1, p2]; rfl
      · have S4b := S4.below
        go_grown
    · have q1 := S4.form.cell 1
      rw [strV, strV]
      go_wp2_with fail
      clear q1
      refine (tell2_any _ _ _).mono ?_
      rintro e w5 ⟨rfl, hb5⟩
      have S5 := S4.later hb5
      have k0 := (S5.res.cell 0); have k1 := (S5.res.cell 1); have k2 := (S5.res.cell 2)
      have z0 := (S5.res.free 0); have z1 := (S5.res.free 1); have z2 := (S5.res.free 2)
      go_wp2
      refine bodyPost_ret (v := (.tuple #[.agg #[strV (trim (s.data.toList.take (first s.data.toList 62))), strV [], strV (trim (s.data.toList.drop (first s.data.toList 62 + 1)))], .bool true])) (by simp [results, Tryz.results136, go_sem, k0, k1, k2, strV]) rfl ?_
      refine ⟨congrArg Ending.returned ?_, ?_⟩
      · rw [show parseP s.data.toList = _ from hv.out, two, p1, p2]; rfl
      · have S5b := S5.below
        go_grown
set_option maxHeartbeats 1000000 in
theorem parse_one (s : ByteArray) (m : Int) (w : World) (hs : s.size ≤ 240) (hm : w.cell? ⟨0, 0, none⟩ = some (.int .i64 m)) (h0 : Hid (first s.data.toList 59 = s.data.toList.length)) (h : Hid (first s.data.toList 62 = s.data.toList.length)) :
    Calls Tryz.prog 136 #[.string s] w fun e w' => e = .returned (parseP s.data.toList) ∧ Below w.heap.size w w' := by
  have hv := Lib.hid (congrArg parseO (parseB_one (l := s.data.toList) (by simpa using hs) h0.out h.out))
  have f0 := form0
  have f1 := form1
  have f2 := form2
  have ff := forms_any
  change ∀ w, Calls _ _ _ _ (fun e w' => e = .returned formsV ∧ _) at ff
  generalize formsV = fv at f0 f1 f2 ff
  have hw0 := block_lt_of_cell hm
  have l1 : s.data.toList.length ≤ 240 := by simpa using hs
  go_enter Tryz.func136, Tryz.ntmps136
  go_wp2_with fail
  refine (ff _).mono ?_
  rintro e w1 ⟨rfl, hb1⟩
  go_wp2_with fail
  refine wp_loop_rounds 3 ?_
  rw [rounds_succ]
  go_wp2_with fail
  have S1 := St.first ⟨#[59]⟩ (.func (.func 150) #[] #[]) hb1
  obtain ⟨W1, hW1⟩ : ∃ W, W = w1.alloc (.cells #[.string ⟨#[59]⟩, .func (.func 150) #[] #[]] 207) := ⟨_, rfl⟩
  rw [← hW1] at S1 ⊢
  clear hW1 hb1
  generalize w1.heap.size = g at S1 ⊢
  refine (cut59_none s m W1 hs ((S1.below.cell (p := ⟨0, 0, none⟩) hw0).trans hm) h0.out).mono ?_
  rintro e w2 ⟨rfl, hb2⟩
  have S2' := S1.later hb2
  clear S1 hb2
  rw [strV]
  go_wp2_with fail
  rw [rounds_succ]
  go_wp2_with fail
  have S1 := S2'.next ⟨#[62]⟩ (.func (.func 151) #[] #[])
  clear S2'
  obtain ⟨W2, hW2⟩ : ∃ W, W = w2.alloc (.cells #[.string ⟨#[62]⟩, .func (.func 151) #[] #[]] 207) := ⟨_, rfl⟩
  rw [← hW2] at S1 ⊢
  clear hW2
  generalize w2.heap.size = g2 at S1 ⊢
  refine (cut62_none s m W2 hs ((S1.below.cell (p := ⟨0, 0, none⟩) hw0).trans hm) h.out).mono ?_
  rintro e w2 ⟨rfl, hb2⟩
  have S2' := S1.later hb2
  clear S1 hb2
  rw [strV]
  go_wp2_with fail
  rw [rounds_succ]
  go_wp2_with fail
  have S2 := S2'.next ⟨#[]⟩ (.func (.func 152) #[] #[])
  clear S2'
  obtain ⟨W3, hW3⟩ : ∃ W, W = w2.alloc (.cells #[.string ⟨#[]⟩, .func (.func 152) #[] #[]] 207) := ⟨_, rfl⟩
  rw [← hW3] at S2 ⊢
  clear hW3
  generalize w2.heap.size = g3 at S2 ⊢
  refine (termPart_any _ _ (by omega)).mono ?_
  rintro e w3 ⟨rfl, hb3⟩
  have S3 := S2.later hb3
  clear S2 hb3
  cases p1 : partB (trim s.data.toList)
  · have k0 := (S3.res.cell 0); have k1 := (S3.res.cell 1); have k2 := (S3.res.cell 2)
    have z0 := (S3.res.free 0); have z1 := (S3.res.free 1); have z2 := (S3.res.free 2)
    go_wp2
    refine bodyPost_ret (v := (.tuple #[.agg #[strV [], strV [], strV []], .bool false])) (by simp [results, Tryz.results136, go_sem, k0, k1, k2, strV]) rfl ?_
    refine ⟨congrArg Ending.returned ?_, ?_⟩
    · rw [show parseP s.data.toList = _ from hv.out, p1]; rfl
    · have S3b := S3.below
      go_grown
  · have q1 := S3.form.cell 1
    rw [strV]
    go_wp2_with fail
    clear q1
    refine (tell3_any _ _ _).mono ?_
    rintro e w5 ⟨rfl, hb5⟩
    have S5 := S3.later hb5
    have k0 := (S5.res.cell 0); have k1 := (S5.res.cell 1); have k2 := (S5.res.cell 2)
    have z0 := (S5.res.free 0); have z1 := (S5.res.free 1); have z2 := (S5.res.free 2)
    go_wp2
    refine bodyPost_ret (v := (.tuple #[.agg #[strV (trim s.data.toList), strV [], strV []], .bool true])) (by simp [results, Tryz.results136, go_sem, k0, k1, k2, strV]) rfl ?_
    refine ⟨congrArg Ending.returned ?_, ?_⟩
    · rw [show parseP s.data.toList = _ from hv.out, p1]; rfl
    · have S5b := S5.below
      go_grown
theorem parse_any (s : ByteArray) (m : Int) (w : World) (hs : s.size ≤ 9223372036854775807) (hm : w.cell? ⟨0, 0, none⟩ = some (.int .i64 m)) :
    Calls Tryz.prog 136 #[.string s] w fun e w' => e = .returned (parseP s.data.toList) ∧ Below w.heap.size w w' := by
  by_cases hl : 240 < s.size
  · exact parse_long s w hs hl
  · have h1 := first_le s.data.toList 59
    have h2 := first_le s.data.toList 62
    have hz := size_list s
    by_cases h : first s.data.toList 59 < s.size
    · exact parse_sub s m w (by omega) hm h
    · by_cases h' : first s.data.toList 62 < s.size
      · exact parse_see s m w (by omega) hm (by unfold Hid; omega) h'
      · exact parse_one s m w (by omega) hm (by unfold Hid; omega) (by unfold Hid; omega)
end Go.Proofs.YtcjmfjccjhdgjaaGreatDoor
namespace Go.Bd
def blanks (u : Bs) : Prop := ∀ c ∈ u, blank c = true
def clear (l : Bs) : Prop := ∀ c ∈ l, c ∉ signs
def Told (l a b c : Bs) : Prop :=
  (partB a = true ∧ trim a = a) ∧
  ((b = [] ∧ c = [] ∧ clear l ∧ a.length ≤ l.length) ∨
   (∃ x y, (partB b = true ∧ trim b = b) ∧ c = [] ∧ l = x ++ 59 :: y ∧ clear x ∧ clear y ∧ a.length ≤ x.length ∧ b.length ≤ y.length) ∨
   (∃ x y, (partB c = true ∧ trim c = c) ∧ b = [] ∧ l = x ++ 62 :: y ∧ clear x ∧ clear y ∧ a.length ≤ x.length ∧ c.length ≤ y.length))
def textL (a b c : Bs) : Bs := a ++ ((if b = [] then [] else 59 :: b) ++ (if c = [] then [] else 62 :: c))
def widen (l : Bs) : Bs := l.flatMap fun c => if c = 59 ∨ c = 62 then [32, 9, c, 32] else [c]
def signN (l : Bs) : Nat := (l.filter (signs.contains ·)).length
end Go.Bd
namespace Go.Proofs.YtcjmfjccjhdgjaaGreatDoor
open Go.RowKit Go.Bd
theorem parseV_none {l : Bs} (h : parseB l = none) : parseV l = .tuple #[strV [], strV [], strV [], .int .i64 4] := by rw [parseV, h]
theorem parseV_some {l a b c : Bs} (h : parseB l = some (a, b, c)) : parseV l = .tuple #[strV a, strV b, strV c, .int .i64 0] := by rw [parseV, h]
theorem parseP_none {l : Bs} (h : parseB l = none) : parseP l = .tuple #[.agg #[strV [], strV [], strV []], .bool false] := by rw [parseP, h]; rfl
theorem parseP_some {l a b c : Bs} (h : parseB l = some (a, b, c)) : parseP l = .tuple #[.agg #[strV a, strV b, strV c], .bool true] := by rw [parseP, h]; rfl
set_option maxHeartbeats 400000 in
theorem Parse_any (s : ByteArray) (m : Int) (w : World) (hs : s.size ≤ 9223372036854775807) (hm : w.cell? ⟨0, 0, none⟩ = some (.int .i64 m)) :
    Calls Tryz.prog 118 #[.string s] w fun e w' => e = .returned (parseV s.data.toList) ∧ Below w.heap.size w w' := by
  have c := parse_any s m w hs hm
  cases hp : parseB s.data.toList with
  | none =>
    rw [parseP_none hp] at c
    rw [parseV_none hp]
    clear hp
    go_enter Tryz.func118, Tryz.ntmps118
    go_wp2_with (go_at_call 136; refine c.mono ?_; rintro e w1 ⟨rfl, hb⟩; rw [strV])
    go_returns
    exact ⟨rfl, hb.alloc hb.size _⟩
  | some t =>
    obtain ⟨x, y, z⟩ := t
    rw [parseP_some hp] at c
    rw [parseV_some hp]
    clear hp
    go_enter Tryz.func118, Tryz.ntmps118
    go_wp2_with (go_at_call 136; refine c.mono ?_; rintro e w1 ⟨rfl, hb⟩; rw [strV, strV, strV])
    go_quiet (fail)
    go_wp2
    go_returns
    exact ⟨rfl, Go.below_drewN (hb.alloc hb.size _) _⟩
end Go.Proofs.YtcjmfjccjhdgjaaGreatDoor
namespace Go.Proofs.YtcjmfjccjhdgjaaGreatDoor
open Go.RowKit Go.Bd
set_option maxRecDepth 100000 in
theorem term_any : AsOk 101 termS := by
  refine ⟨fun args w => by kernel_rfl, ?_⟩
  intro t w m ht hm
  have hm2 : (w.alloc (.cells #[.int .u8 0, .string ⟨#[]⟩, .string ⟨#[]⟩, .string ⟨#[]⟩, .slice none 0 0] 91)).cell? ⟨0, 0, none⟩ = some (.int .i64 m) := (World.cell?_of_block (Below.heap_alloc w _ 0 (World.block_lt_of_cell? w _ hm))).trans hm
  have cp := Parse_any t m _ (by omega) hm2
  have HW : Hid (0 < w.heap.size) := World.block_lt_of_cell? w _ hm
  unfold termS
  cases hp : parseB t.data.toList with
  | none =>
    have e : parseV t.data.toList = .tuple #[.string ⟨#[]⟩, .string ⟨#[]⟩, .string ⟨#[]⟩, .int .i64 4] := by unfold parseV; rw [hp]; rfl
    rw [e] at cp
    clear e hp
    go_enter Tryz.func101, Tryz.ntmps101
    go_wp2_with fail
    refine cp.mono ?_
    clear cp
    rintro e w1 ⟨rfl, hb⟩
    have hX : Holds w1 w.heap.size 91 #[.int .u8 0, .string ⟨#[]⟩, .string ⟨#[]⟩, .string ⟨#[]⟩, .slice none 0 0] := (hb.block _ (by simp)).trans (Holds.new w _ _)
    have c0 := hX.cell 0
    have c1 := hX.cell 1
    have c2 := hX.cell 2
    have c3 := hX.cell 3
    have c4 := hX.cell 4
    have f0 := hX.free 0
    have f1 := hX.free 1
    have f2 := hX.free 2
    have f3 := hX.free 3
    have f4 := hX.free 4
    have HX := Lib.hid hX
    clear hX
    go_wp2
    have hR := ((((HX.out.set 0 (.int .u8 0)).set 1 (.string ⟨#[]⟩)).set 2 (.string ⟨#[]⟩)).set 3 (.string ⟨#[]⟩)).set 4 (.slice none 0 0)
    have hR2 : Holds _ w.heap.size 91 #[.int .u8 0, .string ⟨#[]⟩, .string ⟨#[]⟩, .string ⟨#[]⟩, .slice none 0 0] := hR
    (try simp only [Exit.inBlock, Exit.then])
    refine bodyPost_ret (results_row_tmp rfl _ _ w.heap.size _ _ _ _ rfl hR2 Tryz.underlying91 rfl span_size) rfl ?_
    have hbw : Below w.heap.size w w1 := ((Below.refl _ _).alloc (Nat.le_refl _) _).trans (hb.mono (by simp))
    exact ⟨rfl, ((((hbw.setCell (Nat.le_refl _) _).setCell (Nat.le_refl _) _).setCell (Nat.le_refl _) _).setCell (Nat.le_refl _) _).setCell (Nat.le_refl _) _⟩
  | some v =>
    obtain ⟨a, b, c⟩ := v
    have e : parseV t.data.toList = .tuple #[strV a, strV b, strV c, .int .i64 0] := by unfold parseV; rw [hp]
    rw [e] at cp
    clear e hp
    unfold strV at cp
    go_enter Tryz.func101, Tryz.ntmps101
    go_wp2_with fail
    refine cp.mono ?_
    clear cp
    rintro e w1 ⟨rfl, hb⟩
    have hX : Holds w1 w.heap.size 91 #[.int .u8 0, .string ⟨#[]⟩, .string ⟨#[]⟩, .string ⟨#[]⟩, .slice none 0 0] := (hb.block _ (by simp)).trans (Holds.new w _ _)
    have c0 := hX.cell 0
    have c1 := hX.cell 1
    have c2 := hX.cell 2
    have c3 := hX.cell 3
    have c4 := hX.cell 4
    have f0 := hX.free 0
    have f1 := hX.free 1
    have f2 := hX.free 2
    have f3 := hX.free 3
    have f4 := hX.free 4
    have HX := Lib.hid hX
    clear hX
    go_wp2
    have hR := ((((HX.out.set 0 (.int .u8 5)).set 1 (.string ⟨a.toArray⟩)).set 2 (.string ⟨b.toArray⟩)).set 3 (.string ⟨c.toArray⟩)).set 4 (.slice none 0 0)
    have hR2 : Holds _ w.heap.size 91 #[.int .u8 5, .string ⟨a.toArray⟩, .string ⟨b.toArray⟩, .string ⟨c.toArray⟩, .slice none 0 0] := hR
    (try simp only [Exit.inBlock, Exit.then])
    refine bodyPost_ret (results_row_tmp rfl _ _ w.heap.size _ _ _ _ rfl hR2 Tryz.underlying91 rfl span_size) rfl ?_
    have hbw : Below w.heap.size w w1 := ((Below.refl _ _).alloc (Nat.le_refl _) _).trans (hb.mono (by simp))
    exact ⟨rfl, ((((hbw.setCell (Nat.le_refl _) _).setCell (Nat.le_refl _) _).setCell (Nat.le_refl _) _).setCell (Nat.le_refl _) _).setCell (Nat.le_refl _) _⟩
end Go.Proofs.YtcjmfjccjhdgjaaGreatDoor
namespace Go.Proofs.YtcjmfjccjhdgjaaGreatDoor
open Go.RowKit Go.Bd
section
variable {w : World} {B : Nat} {col : Nat → Nat} {pb ob cap len : Nat} {s : ByteArray} {st : Pst} {i : Nat} {fv : Value} {gb : Nat} {cs : Array Value} {gn : List Bs}
theorem getD_getN (s : ByteArray) (i : Nat) (h : i < s.size) : s.data.toList.getD i 0 = s[i] := by
  have e : s[i] = s.data.toList[i]'(by simpa using h) := by first | rfl | simp [ByteArray.getElem_eq_getElem_data]
  rw [e, List.getD_eq_getElem?_getD, List.getElem?_eq_getElem (by simpa using h)]
  rfl
theorem psAt (h : PSx Tryz.prog w B col pb ob cap len s st i fv gb cs gn) (n : Nat) (hn : n < st.fs.length) : w.cell? ⟨ob, n * 5 + 4, none⟩ = some (.int .i64 (atOf st.fs n : Int)) := by
  obtain ⟨f, hf⟩ : ∃ f, st.fs.reverse[n]? = some f := ⟨_, List.getElem?_eq_getElem (by simpa using hn)⟩
  obtain ⟨sv, tv, hfr⟩ := h.fr n f hf
  unfold atOf
  rw [hf]
  exact (frame_cells hfr h.ho).2.2.2.2
theorem one_list (s : ByteArray) (i : Nat) (h : i < s.size) : (s.extract i (i + 1)).data.toList = [s.data.toList.getD i 0] := by
  have hl : i < s.data.toList.length := by simpa using h
  rw [cut_list, Nat.add_sub_cancel_left, List.getD_eq_getElem?_getD, List.getElem?_eq_getElem hl, List.drop_eq_getElem_cons hl]
  simp
theorem writeLen (st : Pst) (x : Bs) : (st.write x).fs.length = st.fs.length := onTop_length (·.write x) st.fs
theorem tellLen (st : Pst) (a f : Nat) : (st.tell a f).fs.length = st.fs.length := rfl
theorem beginLen (st : Pst) (k a : Nat) (x : Bs) : (st.begin k a x).fs.length = st.fs.length + 1 := rfl
theorem finLen {st : Pst} {i0 n : Nat} (hI : Inv st i0) (h0 : 0 < n) (hn : n < st.fs.length) : (st.fin n).fs.length = n := by
  have h2 := (hI.drop hn).2
  unfold Pst.fin
  generalize st.drop n = sd at h2
  obtain ⟨fs, fa⟩ := sd
  match fs, h2 with
  | f :: r, h2 =>
    simp only [Pst.shut, onTop_length]
    simpa using h2
set_option maxRecDepth 100000 in
set_option maxHeartbeats 2000000 in
theorem mark_any (h : PSx Tryz.prog w B col pb ob cap len s st i fv gb cs gn) (hl : len = st.fs.length) (hI : Inv st i) (hi : i < s.size) (hs : s.size ≤ 100000) (k : Nat) :
    Calls Tryz.prog 107 #[.pointer (some ⟨pb, 0, none⟩), .int .i64 (i : Int), .int .u8 (k : Int)] w fun e w' => e = .returned (.tuple #[]) ∧
      ∃ col' ob' cap' fv' cs', PSx Tryz.prog w' B col' pb ob' cap' (st.mark s.data.toList i k).fs.length s (st.mark s.data.toList i k) i fv' gb cs' gn ∧ Stay B w w' col col' := by
  have h17 := hI.2.2.2
  have h1 := hI.2.2.1
  have c0 := h.hp.cell 0
  have c1 := h.hp.cell 1
  have e1 : IntKind.i64.wrap ((i : Int) + 1) = (i : Int) + 1 := IntWalk.i64_in _ (by omega)
  have e2 : IntKind.i64.wrap ((i : Int) - 1) = (i : Int) - 1 := IntWalk.i64_in _ (by omega)
  have e3 : ((i : Int) - 1).toNat = i - 1 := by omega
  have hla : lastK k st.fs < len := by rw [hl]; rcases lastK_lt k st.fs with h0 | h0 <;> omega
  have HLA := psAt h (lastK k st.fs) (by omega)
  have cl := last_any h hl (by omega) (by omega) k
  have cr := room_any h hl (by omega) (by omega)
  have HMK : Hid (st.mark s.data.toList i k = if lastK k st.fs > 0 ∧ atOf st.fs (lastK k st.fs) + 1 ≠ i ∧ 0 < i ∧ Bd.blank (s.data.toList.getD (i - 1) 0) = false ∧ ¬ (i + 1 < s.data.toList.length ∧ solid (s.data.toList.getD (i + 1) 0) = true) then st.fin (lastK k st.fs)
    else if (0 < i ∧ solid (s.data.toList.getD (i - 1) 0) = true) ∨ s.data.toList.length ≤ i + 1 ∨ Bd.blank (s.data.toList.getD (i + 1) 0) = true then st.write [s.data.toList.getD i 0]
    else if st.room = false then (st.write [s.data.toList.getD i 0]).tell i 7
    else st.begin k i [s.data.toList.getD i 0]) := rfl
  obtain ⟨f, r, hfs⟩ : ∃ f r, st.fs = f :: r := by
    match hq : st.fs, hI.2.2.1 with
    | f :: r, _ => exact ⟨f, r, rfl⟩
    | [], hq2 => simp at hq2
  have hftx : f.row.tx.length ≤ 100000 := by
    have := hI.1
    rw [hfs, wtFs_cons] at this
    unfold wtF wtR at this
    omega
  have hflt : st.faults.length ≤ 10000000 := by have := hI.2.1; omega
  have HFS := Lib.hid hfs
  have HL := Lib.hid hl
  have HLR : Hid (len = r.length + 1) := by unfold Hid; rw [hl, hfs]; rfl
  have HLL := HLR.out
  have HI := Lib.hid hI
  have HN : Hid (st.fs.length = st.fs.length) := rfl
  generalize hlk : lastK k st.fs = n at hla HLA cl HMK
  generalize hrm : st.room = rm at cr HMK
  generalize hat : atOf st.fs n = at' at HLA HMK
  have cbp : ∀ (h : i - 1 < s.size) w, Calls Tryz.prog 119 #[.int .u8 ((s[i - 1]'h).toNat : Int)] w fun e w' => e = .returned (.bool (Bd.blank (s.data.toList.getD (i - 1) 0))) ∧ w = w' := fun h w => by
    rw [getD_getN s (i - 1) h]; exact blank_any _ w
  have cbn : ∀ (h : i + 1 < s.size) w, Calls Tryz.prog 119 #[.int .u8 ((s[i + 1]'h).toNat : Int)] w fun e w' => e = .returned (.bool (Bd.blank (s.data.toList.getD (i + 1) 0))) ∧ w = w' := fun h w => by
    rw [getD_getN s (i + 1) h]; exact blank_any _ w
  have csp : ∀ (h : i - 1 < s.size) w, Calls Tryz.prog 120 #[.int .u8 ((s[i - 1]'h).toNat : Int)] w fun e w' => e = .returned (.bool (solid (s.data.toList.getD (i - 1) 0))) ∧ w = w' := fun h w => by
    rw [getD_getN s (i - 1) h]; exact solid_any _ w
  have csn : ∀ (h : i + 1 < s.size) w, Calls Tryz.prog 120 #[.int .u8 ((s[i + 1]'h).toNat : Int)] w fun e w' => e = .returned (.bool (solid (s.data.toList.getD (i + 1) 0))) ∧ w = w' := fun h w => by
    rw [getD_getN s (i + 1) h]; exact solid_any _ w
  rw [show s.data.toList.length = s.size by simp] at HMK
  generalize Bd.blank (s.data.toList.getD (i - 1) 0) = bp at cbp HMK
  generalize Bd.blank (s.data.toList.getD (i + 1) 0) = bn at cbn HMK
  generalize solid (s.data.toList.getD (i - 1) 0) = sp at csp HMK
  generalize solid (s.data.toList.getD (i + 1) 0) = sn at csn HMK
  have H := Lib.hid h
  have hr17 : r.length ≤ 17 := by omega
  clear h hl hI h17 h1 hfs HLL
  go_enter Tryz.func107, Tryz.ntmps107
  go_wp2_with (first
    | (go_at_call 119; (first | with_reducible refine (cbp (by omega) _).mono ?_ | with_reducible refine (cbn (by omega) _).mono ?_); rintro e w' ⟨rfl, rfl⟩)
    | (go_at_call 120; (first | with_reducible refine (csp (by omega) _).mono ?_ | with_reducible refine (csn (by omega) _).mono ?_); rintro e w' ⟨rfl, rfl⟩)
    | (go_at_call 105; refine cl.mono ?_; rintro e w' ⟨rfl, rfl⟩)
    | (go_at_call 102; refine cr.mono ?_; rintro e w' ⟨rfl, rfl⟩)
    | fail)
  all_goals clear c0 c1 cbp cbn csp csn cl cr
  all_goals try (exact absurd (‹sp = true›.symm.trans ‹sp = false›) (by decide))
  all_goals try (exact absurd (‹(!decide ((i : Int) + 1 < (s.size : Int))) = true›.symm.trans ‹(!decide ((i : Int) + 1 < (s.size : Int))) = false›) (by decide))
  all_goals try (exact absurd (‹bn = true›.symm.trans ‹bn = false›) (by decide))
  all_goals try (exact absurd (‹bp = true›.symm.trans ‹bp = false›) (by decide))
  all_goals try (exfalso; have hq := ‹(!decide ((i : Int) + 1 < (s.size : Int))) = false›; simp only [Bool.not_eq_false', decide_eq_true_eq] at hq; omega)
  all_goals first
    | (have hm : st.mark s.data.toList i k = st.write [s.data.toList.getD i 0] := by
        rw [HMK.out, if_neg (fun hc => by
          obtain ⟨p1, p2, p3, p4, p5⟩ := hc
          first
            | omega
            | exact absurd (p4.symm.trans ‹bp = true›) (by decide)
            | (have hq := ‹((at' : Int) != (i : Int) - 1) = false ∨ (!sn) = false›
               rcases hq with hq | hq
               · simp only [bne_eq_false_iff_eq] at hq; omega
               · exact p5 ⟨by omega, by simpa using hq⟩)), if_pos (by
          first
            | exact .inl ⟨by omega, ‹sp = true›⟩
            | exact .inr (.inr ‹bn = true›)
            | exact .inr (.inl (by omega))
            | (have hq := ‹(!decide ((i : Int) + 1 < (s.size : Int))) = true›; simp only [Bool.not_eq_true', decide_eq_false_iff_not] at hq; exact .inr (.inl (by omega))))]
       refine (top_any (n := r.length) (by rw [← HLR.out]; exact H.out) (by omega)).mono ?_
       rintro e w2 ⟨rfl, kk, rfl⟩
       go_wp2_with fail
       refine (writeTop_any (PSx.drewN H.out kk) HFS.out (s.extract i (i + 1)) (by simp; omega) (by omega)).mono ?_
       rintro e w3 ⟨rfl, col3, cs3, h3, st3⟩
       rw [one_list s i hi] at h3
       have H3 := Lib.hid h3
       have ST3 := Lib.hid st3.undrew
       clear h3 st3
       go_wp2
       go_end0
       exact ⟨rfl, col3, ob, cap, fv, cs3, by rw [hm, writeLen, ← HL.out]; exact H3.out, ST3.out⟩)
    | (have hrf : rm = false := by simpa using ‹(!rm) = true›
       have hm : st.mark s.data.toList i k = (st.write [s.data.toList.getD i 0]).tell i 7 := by
        rw [HMK.out, if_neg (fun hc => by
          obtain ⟨p1, p2, p3, p4, p5⟩ := hc
          first
            | omega
            | exact absurd (p4.symm.trans ‹bp = true›) (by decide)
            | (have hq := ‹((at' : Int) != (i : Int) - 1) = false ∨ (!sn) = false›
               rcases hq with hq | hq
               · simp only [bne_eq_false_iff_eq] at hq; omega
               · exact p5 ⟨by omega, by simpa using hq⟩)), if_neg (fun hc => by
          rcases hc with ⟨q1, q2⟩ | q1 | q1
          · first
              | omega
              | exact absurd (q2.symm.trans ‹sp = false›) (by decide)
          · omega
          · exact absurd (q1.symm.trans ‹bn = false›) (by decide)), if_pos hrf]
       refine (top_any (n := r.length) (by rw [← HLR.out]; exact H.out) (by omega)).mono ?_
       rintro e w2 ⟨rfl, kk, rfl⟩
       go_wp2_with fail
       refine (writeTop_any (PSx.drewN H.out kk) HFS.out (s.extract i (i + 1)) (by simp; omega) (by omega)).mono ?_
       rintro e w3 ⟨rfl, col3, cs3, h3, st3⟩
       rw [one_list s i hi] at h3
       have H3 := Lib.hid h3
       have ST3 := Lib.hid st3.undrew
       clear h3 st3
       go_wp2_with fail
       refine (tell_any H3.out i 7 hflt).mono ?_
       rintro e w4 ⟨rfl, col4, fv4, h4, st4⟩
       have H4 := Lib.hid h4
       have ST4 := Lib.hid (ST3.out.trans st4)
       clear h4 st4
       go_wp2
       go_end0
       exact ⟨rfl, col4, ob, cap, fv4, cs3, by rw [hm, tellLen, writeLen, ← HL.out]; exact H4.out, ST4.out⟩)
    | (have hrt : rm = true := by simpa using ‹(!rm) = false›
       have hm : st.mark s.data.toList i k = st.begin k i [s.data.toList.getD i 0] := by
        rw [HMK.out, if_neg (fun hc => by
          obtain ⟨p1, p2, p3, p4, p5⟩ := hc
          first
            | omega
            | exact absurd (p4.symm.trans ‹bp = true›) (by decide)
            | (have hq := ‹((at' : Int) != (i : Int) - 1) = false ∨ (!sn) = false›
               rcases hq with hq | hq
               · simp only [bne_eq_false_iff_eq] at hq; omega
               · exact p5 ⟨by omega, by simpa using hq⟩)), if_neg (fun hc => by
          rcases hc with ⟨q1, q2⟩ | q1 | q1
          · first
              | omega
              | exact absurd (q2.symm.trans ‹sp = false›) (by decide)
          · omega
          · exact absurd (q1.symm.trans ‹bn = false›) (by decide)), if_neg (by rw [hrt]; decide)]
       have cbg := begin_any H.out HL.out (by have := HLR.out; omega) k i [s.data.toList.getD i 0]
       have hsg : (⟨[s.data.toList.getD i 0].toArray⟩ : ByteArray) = s.extract i (i + 1) := by rw [← one_list s i hi]
       rw [hsg] at cbg
       refine cbg.mono ?_
       clear cbg
       rintro e w2 ⟨rfl, col2, ob2, cap2, cs2, h2, st2⟩
       have H2 := Lib.hid h2
       have ST2 := Lib.hid st2
       clear h2 st2
       go_wp2
       go_end0
       exact ⟨rfl, col2, ob2, cap2, fv, cs2, by rw [hm, beginLen, ← HL.out]; exact H2.out, ST2.out⟩)
    | (have hm : st.mark s.data.toList i k = st.fin n := by
        rw [HMK.out, if_pos ⟨by omega, by
          first
            | omega
            | (have hq := ‹((at' : Int) != (i : Int) - 1) = true›; simp only [bne_iff_ne, ne_eq] at hq; omega), by omega, (by first | assumption | (have hq := ‹¬bp = true›; simpa using hq)), fun hc => by
          first
            | omega
            | exact absurd (hc.2.symm.trans ‹sn = false›) (by decide)
            | (have hq := (‹((at' : Int) != (i : Int) - 1) = true ∧ (!sn) = true›).2; simp only [Bool.not_eq_true'] at hq; exact absurd (hc.2.symm.trans hq) (by decide))
            | (have hq := ‹(!sn) = true›; simp only [Bool.not_eq_true'] at hq; exact absurd (hc.2.symm.trans hq) (by decide))⟩]
       refine (end_any H.out HL.out n (by omega) hla i HI.out (by omega)).mono ?_
       rintro e w2 ⟨rfl, col2, fv2, cs2, h2, st2⟩
       have H2 := Lib.hid h2
       have ST2 := Lib.hid st2
       clear h2 st2
       go_wp2
       (try simp only [Exit.inBlock, Exit.then])
       refine bodyPost_ret (results_none rfl _ _ _) rfl ?_
       have hfl := finLen HI.out (n := n) (by omega) (by rw [← HL.out]; exact hla)
       exact ⟨rfl, col2, ob, cap, fv2, cs2, by rw [hm, hfl]; exact H2.out, ST2.out⟩)
end
end Go.Proofs.YtcjmfjccjhdgjaaGreatDoor
namespace Go.Bd
def plainC (c : UInt8) : Bool := !(c == 42 || c == 95 || c == 60 || c == 40 || c == 94 || c == 93 || c == 92 || c == 96)
theorem drop_cons {s : Bs} {i : Nat} (h : i < s.length) : s.drop i = s.getD i 0 :: s.drop (i + 1) := by
  rw [List.drop_eq_getElem_cons h, List.getD_eq_getElem?_getD, List.getElem?_eq_getElem h]; rfl
theorem plain_ne {c : UInt8} (h : plainC c = true) : c ≠ 42 ∧ c ≠ 95 ∧ c ≠ 60 ∧ c ≠ 40 ∧ c ≠ 94 ∧ c ≠ 93 ∧ c ≠ 92 ∧ c ≠ 96 := by
  simp only [plainC, Bool.not_eq_true', Bool.or_eq_false_iff, beq_eq_false_iff_ne] at h
  obtain ⟨⟨⟨⟨⟨⟨⟨h1, h2⟩, h3⟩, h4⟩, h5⟩, h6⟩, h7⟩, h8⟩ := h
  exact ⟨h1, h2, h3, h4, h5, h6, h7, h8⟩
theorem pre_ne {a b : UInt8} {s : Bs} {i : Nat} (hi : i < s.length) (h : s.getD i 0 ≠ a) : [a, b].isPrefixOf (s.drop i) = false := by
  rw [drop_cons hi, List.isPrefixOf]
  have : (a == s.getD i 0) = false := by simpa using fun e => h e.symm
  rw [this]; rfl
theorem step_plain {s : Bs} {i : Nat} (st : Pst) (hi : i < s.length) (h : plainC (s.getD i 0) = true) : st.step s i = (st.write [s.getD i 0], i + 1) := by
  obtain ⟨h1, h2, h3, h4, h5, h6, h7, h8⟩ := plain_ne h
  unfold Pst.step
  rw [if_neg (fun h => h7 h.1), if_neg h8, if_neg (by rw [pre_ne hi h3]; simp), if_neg (by rw [pre_ne hi h4]; simp), if_neg (by rw [pre_ne hi h5]; simp), if_neg (fun h => h6 h.1), if_neg h1, if_neg h2]
theorem onTop_twice (g h : Rw → Rw) (l : List Fr) : onTop h (onTop g l) = onTop (fun r => h (g r)) l := by cases l <;> rfl
theorem write_write (st : Pst) (a b : Bs) : (st.write a).write b = st.write (a ++ b) := by
  unfold Pst.write Pst.top
  simp only [onTop_twice]
  congr 1
  cases st.fs with
  | nil => rfl
  | cons f r => simp [onTop, Rw.write]
theorem write_nil (st : Pst) : st.write [] = st := by
  obtain ⟨fs, fa⟩ := st
  cases fs with
  | nil => rfl
  | cons f r => simp [Pst.write, Pst.top, onTop, Rw.write]
theorem run_plain {s : Bs} : ∀ (m : Nat) (n i : Nat) (st : Pst), i + m ≤ s.length → (∀ j, i ≤ j → j < i + m → plainC (s.getD j 0) = true) → m ≤ n → runP s n i st = runP s (n - m) (i + m) (st.write ((s.drop i).take m))
  | 0, n, i, st, _, _, _ => by simp [write_nil]
  | m + 1, n, i, st, hl, hp, hn => by
    obtain ⟨n, rfl⟩ : ∃ k, n = k + 1 := ⟨n - 1, by omega⟩
    have hi : i < s.length := by omega
    rw [runP, if_pos hi, step_plain st hi (hp i (Nat.le_refl _) (by omega))]
    simp only
    rw [run_plain m n (i + 1) _ (by omega) (fun j h1 h2 => hp j (by omega) (by omega)) (by omega), write_write]
    have e1 : n + 1 - (m + 1) = n - m := by omega
    have e2 : i + (m + 1) = i + 1 + m := by omega
    rw [e1, e2, drop_cons hi, List.take_succ_cons]; rfl
theorem run_end {s : Bs} {n i : Nat} (st : Pst) (h : s.length ≤ i) : runP s n i st = st := by
  cases n with
  | zero => rfl
  | succ n => rw [runP, if_neg (by omega)]
theorem run_fuel {s : Bs} : ∀ (n m i : Nat) (st : Pst), Inv st i → s.length - i ≤ n → s.length - i ≤ m → runP s n i st = runP s m i st
  | 0, m, i, st, _, h1, _ => by rw [run_end st (by omega), run_end st (by omega)]
  | n + 1, 0, i, st, _, _, h2 => by rw [run_end st (by omega), run_end st (by omega)]
  | n + 1, m + 1, i, st, hI, h1, h2 => by
    rw [runP, runP]
    split
    · rename_i hi
      obtain ⟨h3, h4, h5⟩ := hI.step hi
      exact run_fuel n m _ _ h3 (by omega) (by omega)
    · rfl
theorem run_step {s : Bs} {n i : Nat} {st : Pst} (hI : Inv st i) (hi : i < s.length) (hn : s.length - i ≤ n) : runP s n i st = runP s n (st.step s i).2 (st.step s i).1 := by
  obtain ⟨n, rfl⟩ : ∃ k, n = k + 1 := ⟨n - 1, by omega⟩
  obtain ⟨h3, h4, h5⟩ := hI.step hi
  rw [runP, if_pos hi]
  exact run_fuel _ _ _ _ h3 (by omega) (by omega)
theorem Inv.run {s : Bs} : ∀ (n i : Nat) (st : Pst), Inv st i → i ≤ s.length → s.length - i ≤ n → Inv (runP s n i st) s.length
  | 0, i, st, h, hi, hn => by rw [run_end st (by omega)]; exact h.more hi
  | n + 1, i, st, h, hi, hn => by
    rw [runP]
    split
    · rename_i hlt
      obtain ⟨h3, h4, h5⟩ := h.step hlt
      exact Inv.run n _ _ h3 h5 (by omega)
    · exact h.more hi
theorem plain_getD {l : Bs} (h : l.all plainC = true) {j : Nat} (hj : j < l.length) : plainC (l.getD j 0) = true := by
  rw [List.getD_eq_getElem?_getD, List.getElem?_eq_getElem hj]
  exact List.all_eq_true.1 h _ (List.getElem_mem hj)
theorem end_plain {s : Bs} (h : s.all plainC = true) : endP s = ⟨[⟨⟨[], s⟩, 0, [], 0⟩], []⟩ := by
  unfold endP
  rw [run_plain s.length s.length 0 Pst.first (by omega) (fun j _ h2 => plain_getD h (by omega)) (Nat.le_refl _), run_end _ (by omega)]
  simp only [List.drop_zero, List.take_length]
  rfl
theorem spans_plain {s : Bs} (h : s.all plainC = true) : spansOf s = (if s = [] then [] else [txt s]) ∧ faultsAt s = [] := by
  unfold spansOf faultsAt
  rw [end_plain h]
  refine ⟨?_, rfl⟩
  simp only [Rw.flush]
  split <;> rfl
end Go.Bd
namespace Go.Bd
mutual
def say1 : Sp → Bs
  | ⟨k, t, _, _, kids⟩ => if k = 0 ∨ k = 3 ∨ k = 4 ∨ k = 5 then t else if k = 1 ∨ k = 2 then sayL kids else []
def sayL : List Sp → Bs
  | [] => []
  | x :: l => say1 x ++ sayL l
end
mutual
def snd1 : Sp → Nat → Bool
  | ⟨k, t, u, v, kids⟩, d => decide (k ≤ 6) && !(decide (k = 0) && t.isEmpty) &&
      (if k = 1 ∨ k = 2 ∨ k = 6 then t.isEmpty && !decide (d = 16) && sndL kids (d + 1) 1 else kids.isEmpty) &&
      (decide (k = 5) || (u.isEmpty && v.isEmpty)) && !((decide (k = 1) || decide (k = 2)) && kids.isEmpty)
def sndL : List Sp → Nat → Nat → Bool
  | [], _, _ => true
  | x :: l, d, p => snd1 x d && !(decide (x.kind = 0) && decide (p = 0)) && sndL l d x.kind
end
def lastKind (l : List Sp) (p : Nat) : Nat := match l.getLast? with | some x => x.kind | none => p
theorem lastKind_cons (x : Sp) (l : List Sp) (p : Nat) : lastKind (x :: l) p = lastKind l x.kind := by
  cases l with
  | nil => rfl
  | cons y l =>
    simp only [lastKind, List.getLast?_cons_cons]
    cases h : (y :: l).getLast? with
    | none => simp at h
    | some z => rfl
theorem lastKind_snoc (l : List Sp) (x : Sp) (p : Nat) : lastKind (l ++ [x]) p = x.kind := by simp [lastKind]
theorem sndL_snoc : ∀ (l : List Sp) (x : Sp) (d p : Nat), sndL (l ++ [x]) d p = (sndL l d p && (snd1 x d && !(decide (x.kind = 0) && decide (lastKind l p = 0))))
  | [], x, d, p => by simp only [List.nil_append, sndL, lastKind, List.getLast?_nil, Bool.and_true, Bool.true_and]; rfl
  | y :: l, x, d, p => by
    rw [List.cons_append, sndL, sndL, sndL_snoc l x d y.kind, lastKind_cons]
    simp only [Bool.and_assoc]
theorem sayL_app : ∀ (a b : List Sp), sayL (a ++ b) = sayL a ++ sayL b
  | [], b => by simp [sayL]
  | x :: a, b => by rw [List.cons_append, sayL, sayL, sayL_app a b, List.append_assoc]
theorem say_txt (s : Bs) : say1 (txt s) = s := by simp [txt, say1]
def sayR (r : Rw) : Bs := sayL r.sp ++ r.tx
theorem sayR_write (r : Rw) (s : Bs) : sayR (r.write s) = sayR r ++ s := by simp [sayR, Rw.write]
theorem sayR_flush (r : Rw) : sayR r.flush = sayR r := by
  unfold Rw.flush
  split
  · rename_i h; simp [sayR, h]
  · simp [sayR, sayL_app, sayL, say_txt]
theorem flush_tx (r : Rw) : r.flush.tx = [] := by unfold Rw.flush; split <;> rfl
theorem sayL_flush (r : Rw) : sayL r.flush.sp = sayR r := by
  rw [← sayR_flush, sayR, flush_tx, List.append_nil]
theorem say1_text {x : Sp} (h : x.kind = 0) : say1 x = x.text := by obtain ⟨k, t, u, v, ks⟩ := x; simp only at h; subst h; simp [say1]
theorem sayR_add (r : Rw) (x : Sp) : sayR (r.add x) = sayR r ++ say1 x := by
  unfold Rw.add
  split
  · rename_i h; rw [sayR_write, say1_text h]
  · simp [sayR, sayL_app, sayL]
    rw [sayL_flush]; simp [sayR]
theorem sayR_adds : ∀ (l : List Sp) (r : Rw), sayR (l.foldl Rw.add r) = sayR r ++ sayL l
  | [], r => by simp [sayL]
  | x :: l, r => by rw [List.foldl_cons, sayR_adds l, sayR_add, sayL, List.append_assoc]
theorem sayR_spill (f : Fr) (r : Rw) : sayR (spill f r) = sayR r ++ f.sign ++ sayR f.row := by
  rw [spill, sayR_write, sayR_adds, sayR_write]; simp [sayR]
def rowOk (r : Rw) (d : Nat) : Prop := sndL r.sp d 1 = true ∧ lastKind r.sp 1 ≠ 0
theorem snd_txt {s : Bs} (h : s ≠ []) (d : Nat) : snd1 (txt s) d = true := by
  cases s with
  | nil => exact absurd rfl h
  | cons a s => simp [txt, snd1]
theorem rowOk.none (d : Nat) : rowOk Rw.none d := by simp [rowOk, Rw.none, sndL, lastKind]
theorem rowOk.write {r : Rw} {d : Nat} (h : rowOk r d) (s : Bs) : rowOk (r.write s) d := h
theorem rowOk.flush {r : Rw} {d : Nat} (h : rowOk r d) : sndL r.flush.sp d 1 = true := by
  unfold Rw.flush
  split
  · exact h.1
  · rename_i hn
    simp only
    rw [sndL_snoc, h.1, snd_txt hn]
    simp [h.2]
theorem rowOk.add {r : Rw} {d : Nat} (h : rowOk r d) {x : Sp} (hx : x.kind = 0 ∨ snd1 x d = true) : rowOk (r.add x) d := by
  unfold Rw.add
  split
  · exact h
  · rename_i hk
    have hs : snd1 x d = true := by
      rcases hx with h | h
      · exact absurd h hk
      · exact h
    refine ⟨?_, ?_⟩
    · simp only
      rw [sndL_snoc, h.flush, hs]
      simp [hk]
    · simp only
      rw [lastKind_snoc]; exact hk
mutual
theorem snd1_up : ∀ (x : Sp) (d : Nat), d + 1 ≤ 16 → snd1 x (d + 1) = true → snd1 x d = true
  | ⟨k, t, u, v, kids⟩, d, hd, h => by
    simp only [snd1, Bool.and_eq_true] at h ⊢
    obtain ⟨⟨⟨h1, h2⟩, h3⟩, h4⟩ := h
    refine ⟨⟨⟨h1, ?_⟩, h3⟩, h4⟩
    split
    · rename_i hk
      rw [if_pos hk] at h2
      simp only [Bool.and_eq_true, Bool.not_eq_true', decide_eq_false_iff_not] at h2 ⊢
      obtain ⟨⟨h5, h6⟩, h7⟩ := h2
      exact ⟨⟨h5, by omega⟩, sndL_up kids (d + 1) 1 (by omega) h7⟩
    · rename_i hk
      rw [if_neg hk] at h2
      exact h2
theorem sndL_up : ∀ (l : List Sp) (d p : Nat), d + 1 ≤ 16 → sndL l (d + 1) p = true → sndL l d p = true
  | [], _, _, _, _ => rfl
  | x :: l, d, p, hd, h => by
    simp only [sndL, Bool.and_eq_true] at h ⊢
    exact ⟨⟨snd1_up x d hd h.1.1, h.1.2⟩, sndL_up l d x.kind hd h.2⟩
end
theorem rowOk.adds {d : Nat} : ∀ {l : List Sp} {p : Nat} {r : Rw}, rowOk r d → sndL l d p = true → rowOk (l.foldl Rw.add r) d
  | [], _, _, h, _ => h
  | x :: l, p, r, h, hl => by
    simp only [sndL, Bool.and_eq_true] at hl
    rw [List.foldl_cons]
    exact rowOk.adds (l := l) (h.add (.inr hl.1.1)) hl.2
theorem rowOk.spill {f : Fr} {r : Rw} {d : Nat} (hf : rowOk f.row (d + 1)) (h : rowOk r d) (hd : d + 1 ≤ 16) : rowOk (spill f r) d :=
  ((h.write f.sign).adds (sndL_up _ _ _ hd hf.1)).write f.row.tx
def Rw.has (r : Rw) : Prop := r.sp ≠ [] ∨ r.tx ≠ []
theorem has_write {r : Rw} {s : Bs} (h : r.has ∨ s ≠ []) : (r.write s).has := by
  rcases h with (h | h) | h
  · exact .inl h
  · exact .inr (by simp [Rw.write, h])
  · exact .inr (by simp [Rw.write, h])
theorem has_add {r : Rw} {x : Sp} (h : r.has ∨ x.kind ≠ 0 ∨ x.text ≠ []) : (r.add x).has := by
  unfold Rw.add
  split
  · rename_i hk
    exact has_write (by rcases h with h | h | h; exact .inl h; exact absurd hk h; exact .inr h)
  · exact .inl (by simp)
theorem has_adds : ∀ {l : List Sp} {r : Rw}, r.has → (l.foldl Rw.add r).has
  | [], _, h => h
  | x :: l, r, h => by rw [List.foldl_cons]; exact has_adds (l := l) (has_add (.inl h))
theorem has_spill {f : Fr} {r : Rw} (h : f.sign ≠ []) : (spill f r).has := has_write (.inl (has_adds (has_write (.inr h))))
theorem has_flush {r : Rw} (h : r.has) : r.flush.sp ≠ [] := by
  unfold Rw.flush
  split
  · rename_i ht
    rcases h with h | h
    · exact h
    · exact absurd ht h
  · simp
def frOk : List Fr → Nat → Prop
  | [], n => n = 0
  | f :: r, n => rowOk f.row r.length ∧ (r ≠ [] → (f.kind = 1 ∨ f.kind = 2 ∨ f.kind = 6) ∧ f.sign ≠ [] ∧ (f.kind ≠ 6 → f.sign.length = 1)) ∧ ∃ m, frOk r m ∧ n = (sayR f.row).length + f.sign.length + m
structure Snd (st : Pst) (i : Nat) : Prop where
  n1 : 1 ≤ st.fs.length
  n17 : st.fs.length ≤ 17
  fr : ∃ n, frOk st.fs n ∧ n ≤ i
  top : ∀ f r, st.fs = f :: r → r ≠ [] → f.kind ≠ 6 → f.at' + 1 = i ∨ f.row.has
  fa : ∀ p ∈ st.faults, p.2 = 7 ∨ p.2 = 8 ∨ p.2 = 10
theorem Snd.first : Snd Pst.first 0 := by
  refine ⟨by simp [Pst.first], by simp [Pst.first], ⟨0, ?_, Nat.le_refl _⟩, ?_, ?_⟩
  · exact ⟨rowOk.none 0, fun h => absurd rfl h, 0, rfl, rfl⟩
  · intro f r h hr; cases h; exact absurd rfl hr
  · intro p hp; cases hp
theorem Snd.tell {st : Pst} {i : Nat} (h : Snd st i) (a f : Nat) (hf : f = 7 ∨ f = 8 ∨ f = 10) : Snd (st.tell a f) i := by
  refine ⟨h.n1, h.n17, h.fr, h.top, fun p hp => ?_⟩
  rcases List.mem_append.1 hp with hp | hp
  · exact h.fa p hp
  · simp at hp; subst hp; exact hf
theorem Snd.row {st : Pst} {i j m : Nat} {g : Rw → Rw} (h : Snd st i) (hj : i + m ≤ j) (hg : ∀ r d, rowOk r d → rowOk (g r) d) (hs : ∀ r, (sayR (g r)).length ≤ (sayR r).length + m) (hh : ∀ r, (g r).has) : Snd (st.top g) j := by
  obtain ⟨fs, fa⟩ := st
  match fs, h with
  | f :: r, h =>
    obtain ⟨n, h1, h2⟩ := h.fr
    obtain ⟨g1, g2, k, g3, rfl⟩ := h1
    refine ⟨by simp [Pst.top, onTop], by have := h.n17; simpa [Pst.top, onTop] using this, ⟨(sayR (g f.row)).length + f.sign.length + k, ⟨hg _ _ g1, g2, k, g3, rfl⟩, ?_⟩, ?_, h.fa⟩
    · have := hs f.row; omega
    · intro f' r' e hr _
      simp only [Pst.top, onTop, List.cons.injEq] at e
      obtain ⟨rfl, rfl⟩ := e
      exact .inr (hh f.row)
  | [], h => exact absurd h.n1 (by simp)
theorem Snd.write {st : Pst} {i j : Nat} (h : Snd st i) (s : Bs) (hs : s ≠ []) (hj : i + s.length ≤ j) : Snd (st.write s) j :=
  h.row hj (fun _ _ hr => hr.write s) (fun r => by rw [sayR_write]; simp) (fun r => has_write (.inr hs))
theorem Snd.drop1 {st : Pst} {i j : Nat} (h : Snd st i) (h2 : 2 ≤ st.fs.length) (hj : i ≤ j) : Snd st.drop1 j ∧ ∃ f r, st.drop1.fs = f :: r ∧ f.row.has := by
  obtain ⟨fs, fa⟩ := st
  match fs, h2, h with
  | f :: g :: r, _, h =>
    obtain ⟨n, h1, h3⟩ := h.fr
    obtain ⟨g1, g2, k, ⟨g3, g4, m, g5, rfl⟩, rfl⟩ := h1
    have h17 := h.n17
    simp only [List.length_cons] at h17 g1 g2
    have hsg := (g2 (by simp)).2.1
    have hh : (Go.Bd.spill f g.row).has := has_spill hsg
    refine ⟨⟨by simp [Pst.drop1, onTop], by simp [Pst.drop1, onTop]; omega, ⟨(sayR (spill f g.row)).length + g.sign.length + m, ⟨rowOk.spill g1 g3 (by omega), g4, m, g5, rfl⟩, ?_⟩, ?_, ?_⟩, ⟨_, _, rfl, hh⟩⟩
    · rw [sayR_spill]; simp only [List.length_append]; omega
    · intro f' r' e hr _
      simp only [Pst.drop1, onTop, List.cons.injEq] at e
      obtain ⟨rfl, rfl⟩ := e
      exact .inr hh
    · intro p hp
      rcases List.mem_append.1 hp with hp | hp
      · exact h.fa p hp
      · simp at hp; subst hp; exact .inl rfl
theorem Snd.dropN {i : Nat} : ∀ (n : Nat) {st : Pst}, Snd st i → n + 1 ≤ st.fs.length → Snd (st.dropN n) i ∧ (st.dropN n).fs.length + n = st.fs.length ∧ (1 ≤ n → ∃ f r, (st.dropN n).fs = f :: r ∧ f.row.has)
  | 0, _, h, _ => ⟨h, rfl, fun h => by omega⟩
  | n + 1, st, h, hl => by
    have h1 := drop1_length (st := st) (by omega)
    obtain ⟨h4, h5⟩ := h.drop1 (by omega) (Nat.le_refl _)
    obtain ⟨h2, h3, h6⟩ := Snd.dropN n h4 (by omega)
    refine ⟨h2, by rw [Pst.dropN]; omega, fun _ => ?_⟩
    rw [Pst.dropN]
    cases n with
    | zero => exact h5
    | succ n => exact h6 (by omega)
theorem Snd.drop {st : Pst} {i n : Nat} (h : Snd st i) (hn : n < st.fs.length) : Snd (st.drop n) i ∧ (st.drop n).fs.length = n + 1 ∧ (n + 1 < st.fs.length → ∃ f r, (st.drop n).fs = f :: r ∧ f.row.has) := by
  obtain ⟨h1, h2, h3⟩ := Snd.dropN (st.fs.length - 1 - n) h (by omega)
  exact ⟨h1, by rw [Pst.drop]; omega, fun h => h3 (by omega)⟩
theorem Snd.fin {st : Pst} {i n j : Nat} (h : Snd st i) (h0 : 0 < n) (hn : n < st.fs.length) (hj : i ≤ j) (ht : (n + 1 = st.fs.length → ∀ f r, st.fs = f :: r → f.kind ≠ 6 → f.at' + 1 ≠ i)) : Snd (st.fin n) j := by
  obtain ⟨h1, h2, h3⟩ := h.drop hn
  have hh : ∀ f r, (st.drop n).fs = f :: r → f.kind ≠ 6 → f.row.has := fun f r e hk => by
    by_cases hl : n + 1 < st.fs.length
    · obtain ⟨f', r', e', hf⟩ := h3 hl
      rw [e] at e'; cases e'; exact hf
    · have hd : st.drop n = st := by rw [Pst.drop, show st.fs.length - 1 - n = 0 by omega]; rfl
      rw [hd] at e
      have hr : r ≠ [] := fun hr => by rw [e, hr] at hn; simp at hn; omega
      rcases h.top f r e hr hk with h5 | h5
      · exact absurd h5 (ht (by omega) f r e hk)
      · exact h5
  unfold Pst.fin
  generalize st.drop n = sd at h1 h2 hh
  obtain ⟨fs, fa⟩ := sd
  match fs, h1, h2, hh with
  | f :: g :: r, h1, h2, hh =>
    obtain ⟨m, k1, k2⟩ := h1.fr
    obtain ⟨g1, g2, k, ⟨g3, g4, q, g5, rfl⟩, rfl⟩ := k1
    have h17 := h1.n17
    simp only [List.length_cons] at h17 g1 g2 h2
    obtain ⟨hk, hsg, _⟩ := g2 (by simp)
    have hx : snd1 ⟨f.kind, [], [], [], f.row.flush.sp⟩ r.length = true := by
      have hfl := g1.flush
      simp only [snd1, Bool.and_eq_true]
      refine ⟨⟨⟨⟨by simp; omega, by simp; omega⟩, ?_⟩, by simp⟩, ?_⟩
      · rw [if_pos hk, hfl]; simp; omega
      · by_cases h6 : f.kind = 6
        · simp [h6]
        · have := has_flush (hh f (g :: r) rfl h6)
          simp [this]
    have hsy : (say1 ⟨f.kind, [], [], [], f.row.flush.sp⟩).length ≤ (sayR f.row).length := by
      simp only [say1]
      split
      · simp
      · split
        · rw [sayL_flush]; exact Nat.le_refl _
        · simp
    refine ⟨by simp [Pst.shut, onTop], by simp [Pst.shut, onTop]; omega, ⟨(sayR (g.row.add ⟨f.kind, [], [], [], f.row.flush.sp⟩)).length + g.sign.length + q, ⟨g3.add (.inr hx), g4, q, g5, rfl⟩, ?_⟩, ?_, h1.fa⟩
    · rw [sayR_add, List.length_append]; omega
    · intro f' r' e hr _
      simp only [Pst.shut, onTop, List.cons.injEq] at e
      obtain ⟨rfl, rfl⟩ := e
      exact .inr (has_add (.inr (.inl (by simp only; omega))))
  | [f], h1, h2, hh => simp at h2; omega
  | [], h1, h2, hh => simp at h2
theorem Snd.begin {st : Pst} {i j : Nat} (h : Snd st i) (hr : st.room = true) (k : Nat) (sign : Bs) (hk : k = 1 ∨ k = 2 ∨ k = 6) (hs : sign ≠ []) (hs1 : k ≠ 6 → sign.length = 1) (hj : j = i + sign.length) : Snd (st.begin k i sign) j := by
  unfold Pst.room at hr
  have := of_decide_eq_true hr
  obtain ⟨n, h1, h2⟩ := h.fr
  refine ⟨by simp [Pst.begin], by simp [Pst.begin]; omega, ⟨0 + sign.length + n, ⟨rowOk.none _, fun _ => ⟨hk, hs, hs1⟩, n, h1, by simp [sayR, Rw.none, sayL]⟩, by omega⟩, ?_, h.fa⟩
  intro f r e _ h6
  simp only [Pst.begin, List.cons.injEq] at e
  obtain ⟨rfl, rfl⟩ := e
  simp only at h6 ⊢
  rw [hj, hs1 h6]; exact .inl rfl
theorem atOf_top' (f : Fr) (r : List Fr) : atOf (f :: r) r.length = f.at' := by
  unfold atOf
  rw [List.reverse_cons, List.getElem?_append_right (by simp)]; simp
theorem Snd.mark {st : Pst} {s : Bs} {i k : Nat} (h : Snd st i) (hk : k = 1 ∨ k = 2) : Snd (st.mark s i k) (i + 1) := by
  unfold Pst.mark
  split
  · rename_i hc
    rcases lastK_lt k st.fs with h0 | h0
    · omega
    · refine h.fin hc.1 h0 (by omega) (fun e f r hf _ he => hc.2.1 ?_)
      have : lastK k st.fs = r.length := by rw [hf] at e ⊢; simp at e ⊢; omega
      rw [this, hf, atOf_top']; exact he
  · split
    · exact h.write _ (by simp) (by simp)
    · split
      · exact (h.write (j := i + 1) _ (by simp) (by simp)).tell _ _ (.inl rfl)
      · exact h.begin (by simp_all) k _ (by omega) (by simp) (fun _ => rfl) rfl
theorem as_snd {asf : Bs → Sp ⊕ Nat} {l : Bs} {x : Sp} (h : asf = codeS ∨ asf = refS ∨ asf = termS) (hx : asf l = .inl x) (hp : ∀ a b c, parseB l = some (a, b, c) → a.length ≤ l.length) : (∀ d, snd1 x d = true) ∧ x.kind ≠ 0 ∧ (say1 x).length ≤ l.length := by
  rcases h with rfl | rfl | rfl
  · cases hx; exact ⟨fun d => by simp [snd1], by simp, by simp [say1]⟩
  · unfold refS at hx
    split at hx
    · cases hx; exact ⟨fun d => by simp [snd1], by simp, by simp [say1]⟩
    · cases hx
  · unfold termS at hx
    split at hx
    · rename_i a b c e
      cases hx; exact ⟨fun d => by simp [snd1], by simp, by simpa [say1] using hp a b c e⟩
    · cases hx
theorem as_fault {asf : Bs → Sp ⊕ Nat} {l : Bs} {f : Nat} (h : asf = codeS ∨ asf = refS ∨ asf = termS) (hx : asf l = .inr f) : f = 7 ∨ f = 8 ∨ f = 10 := by
  rcases h with rfl | rfl | rfl
  · cases hx
  · unfold refS at hx
    split at hx
    · cases hx
    · cases hx; exact .inr (.inr rfl)
  · unfold termS at hx
    split at hx
    · cases hx
    · cases hx; exact .inr (.inl rfl)
theorem parse_le {l a b c : Bs} (h : parseB l = some (a, b, c)) : a.length ≤ l.length := by
  have h1 := trim_le (l.take (min (first l 59) (first l 62)))
  have h2 : (l.take (min (first l 59) (first l 62))).length ≤ l.length := by rw [List.length_take]; omega
  unfold parseB at h
  split at h
  · cases h
  split at h
  · cases h
  split at h
  · cases h; omega
  split at h
  · cases h
  split at h
  · cases h; omega
  · cases h; omega
theorem Snd.between {st : Pst} {s a b : Bs} {i : Nat} {asf : Bs → Sp ⊕ Nat} (h : Snd st i) (has : asf = codeS ∨ asf = refS ∨ asf = termS) (ha : 1 ≤ a.length) (hb : 1 ≤ b.length) (hi : i + a.length ≤ s.length) :
    Snd (st.between s i a b asf).1 (st.between s i a b asf).2 := by
  have ha0 : a ≠ [] := fun e => by rw [e] at ha; simp at ha
  unfold Pst.between
  split
  · exact (h.write _ ha0 (Nat.le_refl _)).tell _ _ (.inl rfl)
  · rename_i n hn
    obtain ⟨h1, h2⟩ := nextAt_some hi hn
    have hl1 : ((s.drop i).take (n + b.length - i)).length = n + b.length - i := by rw [List.length_take, List.length_drop]; omega
    have hl2 : ((s.drop (i + a.length)).take (n - (i + a.length))).length = n - (i + a.length) := by rw [List.length_take, List.length_drop]; omega
    split
    · rename_i f hf
      refine (h.write (j := n + b.length) _ (fun e => ?_) (by omega)).tell _ _ (as_fault has hf)
      rw [e] at hl1; simp at hl1; omega
    · rename_i x hx
      obtain ⟨p1, p2, p3⟩ := as_snd has hx (fun a b c e => parse_le e)
      exact h.row (m := (say1 x).length) (by rw [hl2] at p3; simp only; omega) (fun r d hr => hr.add (.inr (p1 d))) (fun r => by rw [sayR_add, List.length_append]; exact Nat.le_refl _) (fun r => has_add (.inr (.inl p2)))
theorem Snd.step {st : Pst} {s : Bs} {i : Nat} (h : Snd st i) (hi : i < s.length) : Snd (st.step s i).1 (st.step s i).2 := by
  unfold Pst.step
  split
  · exact h.write _ (by simp) (by simp)
  split
  · exact h.between (.inl rfl) (by simp) (by simp) (by simp; omega)
  split
  · rename_i hp
    exact h.between (.inr (.inl rfl)) (by simp) (by simp) (prefix_two hp)
  split
  · rename_i hp
    exact h.between (.inr (.inr rfl)) (by simp) (by simp) (prefix_two hp)
  split
  · simp only
    split
    · rename_i hr; exact h.begin hr 6 _ (by omega) (by simp) (fun h => absurd rfl h) rfl
    · exact (h.write (j := i + 2) _ (by simp) (by simp)).tell _ _ (.inl rfl)
  split
  · rename_i hc
    rcases lastK_lt 6 st.fs with h0 | h0
    · omega
    · refine h.fin hc.2 h0 (by simp) (fun e f r hf h6 => ?_)
      exfalso
      refine h6 ?_
      rw [hf] at e
      have hl : lastK 6 (f :: r) = r.length := by simp at e; omega
      rw [lastK] at hl
      by_cases h7 : r = []
      · rw [hf, lastK, if_pos h7] at hc
        omega
      · rw [if_neg h7] at hl
        by_cases h8 : f.kind = 6
        · exact h8
        · rw [if_neg h8] at hl
          rcases lastK_lt 6 r with h9 | h9
          · have : 0 < r.length := List.length_pos_iff.2 h7
            omega
          · omega
  split
  · exact h.mark (.inl rfl)
  split
  · exact h.mark (.inr rfl)
  · exact h.write _ (by simp) (by simp)
theorem Snd.run {s : Bs} : ∀ (n i : Nat) (st : Pst), Inv st i → Snd st i → i ≤ s.length → s.length - i ≤ n → Snd (runP s n i st) s.length
  | 0, i, st, _, h, hi, hn => by
    rw [run_end (s := s) st (by omega)]
    have : i = s.length := by omega
    rw [← this]; exact h
  | n + 1, i, st, hI, h, hi, hn => by
    rw [runP]
    split
    · rename_i hlt
      obtain ⟨h3, h4, h5⟩ := hI.step hlt
      exact Snd.run n _ _ h3 (h.step hlt) h5 (by omega)
    · have : i = s.length := by omega
      rw [← this]; exact h
theorem endP_one (s : Bs) : ∃ f, (endP s).fs = [f] := by
  have h := Snd.run (s := s) s.length 0 Pst.first Inv.first Snd.first (Nat.zero_le _) (by omega)
  have h2 := (h.drop h.n1).2.1
  match hq : (endP s).fs with
  | [f] => exact ⟨f, rfl⟩
  | [] => unfold endP at hq; rw [hq] at h2; simp at h2
  | f :: g :: r => unfold endP at hq; rw [hq] at h2; simp at h2
end Go.Bd
namespace Go.Bd
theorem isB {c d : UInt8} {k : Int} (hk : (d.toNat : Int) = k) (h : c = d) : ((c.toNat : Int) == k) = true := by subst h; rw [hk]; simp
theorem neB {c d : UInt8} {k : Int} (hk : (d.toNat : Int) = k) (h : c ≠ d) : ((c.toNat : Int) == k) = false := by
  rw [beq_eq_false_iff_ne, ← hk]
  intro e
  exact h (UInt8.toNat_inj.1 (by omega))
theorem pre_hasPrefix (s p : Bs) : Lib.hasPrefix s p = p.isPrefixOf s := by first | rfl | simp [Lib.hasPrefix] | (unfold Lib.hasPrefix; rfl)
end Go.Bd
namespace Go.Proofs.YtcjmfjccjhdgjaaGreatDoor
open Go.RowKit Go.Bd
section
variable {w : World} {B : Nat} {col : Nat → Nat} {pb ob cap len : Nat} {s : ByteArray} {st : Pst} {i : Nat} {fv : Value} {gb : Nat} {cs : Array Value} {gn : List Bs}
def StepPost (B pb : Nat) (s : ByteArray) (gb : Nat) (w : World) (col : Nat → Nat) (st' : Pst) (j : Nat) (w' : World) : Prop :=
  ∃ col' ob' cap' fv' cs' gn', PSx Tryz.prog w' B col' pb ob' cap' st'.fs.length s st' j fv' gb cs' gn' ∧ Stay B w w' col col'
theorem between_any (h : PSx Tryz.prog w B col pb ob cap len s st i fv gb cs gn) (hl : len = st.fs.length) (hI : Inv st i) (a b : ByteArray) (ha : 1 ≤ a.size) (ha2 : a.size ≤ 2) (hb0 : 1 ≤ b.size) (hb : b.size ≤ 2) (hi : i + a.size ≤ s.size) (hs : s.size ≤ 100000) (F : Nat) (m : Int) (hm : w.cell? ⟨0, 0, none⟩ = some (.int .i64 m)) (hB : 0 < B)
    {af : Bs → Sp ⊕ Nat} (hF : AsOk F af) (has : af = codeS ∨ af = refS ∨ af = termS) :
    Calls Tryz.prog 98 #[.pointer (some ⟨pb, 0, none⟩), .int .i64 (i : Int), .string a, .string b, .func (.func F) #[] #[]] w fun e w' => e = .returned (.int .i64 ((st.between s.data.toList i a.data.toList b.data.toList af).2 : Nat)) ∧
      StepPost B pb s gb w col (st.between s.data.toList i a.data.toList b.data.toList af).1 (st.between s.data.toList i a.data.toList b.data.toList af).2 w' := by
  have la : a.data.toList.length = a.size := by simp
  have lb : b.data.toList.length = b.size := by simp
  have ls : s.data.toList.length = s.size := by simp
  unfold Pst.between
  rw [la, lb]
  cases hn : nextAt s.data.toList (i + a.size) b.data.toList with
  | none =>
    refine (between_none h hl hI a b ha ha2 hb hi hs F m hm hn).mono ?_
    rintro e w' ⟨rfl, col', fv', cs', gn', h1, h2⟩
    exact ⟨rfl, col', ob, cap, fv', cs', gn', by rw [show (((st.write a.data.toList).tell i 7 : Pst)).fs.length = len by rw [tellLen, writeLen, hl]]; exact h1, h2⟩
  | some n =>
    obtain ⟨n1, n2⟩ := nextAt_some (by omega) hn
    rw [lb, ls] at n2
    simp only
    cases haf : af ((s.data.toList.drop (i + a.size)).take (n - (i + a.size))) with
    | inr fc =>
      have hfc : 1 ≤ fc := by rcases as_fault has haf with h | h | h <;> omega
      refine (between_bad h hl hI a b ha ha2 hb hi hs F m hm hB hn n2 hF haf hfc).mono ?_
      rintro e w' ⟨rfl, col', fv', cs', gn', h1, h2⟩
      exact ⟨rfl, col', ob, cap, fv', cs', gn', by rw [show (((st.write ((s.data.toList.drop i).take (n + b.size - i))).tell i fc : Pst)).fs.length = len by rw [tellLen, writeLen, hl]]; exact h1, h2⟩
    | inl x =>
      obtain ⟨_, p2, p3, _⟩ := as_wt has haf
      refine (between_good h hl hI a b ha ha2 hb hi hs F m hm hB hn n2 hF haf p3 (fun h => absurd h p2)).mono ?_
      rintro e w' ⟨rfl, col', fv', cs', gn', h1, h2⟩
      exact ⟨rfl, col', ob, cap, fv', cs', gn', by rw [show ((st.top (·.add x) : Pst)).fs.length = len by rw [hl]; exact onTop_length (·.add x) st.fs]; exact h1, h2⟩
theorem rest_list (s : ByteArray) (i : Nat) : (s.extract i s.size).data.toList = s.data.toList.drop i := by
  rw [cut_list, List.take_of_length_le (by simp)]
theorem rest_get {s : ByteArray} {i : Nat} (j : Nat) (h : j < (s.extract i s.size).size) : (s.extract i s.size)[j] = s.data.toList.getD (i + j) 0 := by
  have e : (s.extract i s.size)[j] = (s.extract i s.size).data.toList[j]'(by simpa using h) := by first | rfl | simp [ByteArray.getElem_eq_getElem_data]
  rw [e, List.getD_eq_getElem?_getD]
  simp only [rest_list, List.getElem_drop]
  rw [List.getElem?_eq_getElem]
  rfl
set_option maxRecDepth 100000 in
set_option maxHeartbeats 2000000 in
theorem step_esc (h : PSx Tryz.prog w B col pb ob cap len s st i fv gb cs gn) (hl : len = st.fs.length) (hI : Inv st i) (hi : i < s.size) (hs : s.size ≤ 100000) (m : Int) (hm : w.cell? ⟨0, 0, none⟩ = some (.int .i64 m)) (hB : 0 < B) (hc : s.data.toList.getD i 0 = 92) (hn : i + 1 < s.size) (he : escB (s.data.toList.getD (i + 1) 0) = true) :
    Calls Tryz.prog 78 #[.pointer (some ⟨pb, 0, none⟩), .int .i64 (i : Int)] w fun e w' => e = .returned (.int .i64 ((i + 2 : Nat) : Int)) ∧ StepPost B pb s gb w col (st.write [s.data.toList.getD (i + 1) 0]) (i + 2) w' := by
  have h17 := hI.2.2.2
  have h1 := hI.2.2.1
  have c0 := h.hp.cell 0
  obtain ⟨f, r, hfs⟩ : ∃ f r, st.fs = f :: r := by
    match hq : st.fs, hI.2.2.1 with
    | f :: r, _ => exact ⟨f, r, rfl⟩
    | [], hq2 => simp at hq2
  have hftx : f.row.tx.length ≤ 100000 := by
    have := hI.1
    rw [hfs, wtFs_cons] at this
    unfold wtF wtR at this
    omega
  have hflt : st.faults.length ≤ 10000000 := by have := hI.2.1; omega
  have HLR : Hid (len = r.length + 1) := by unfold Hid; rw [hl, hfs]; rfl
  have hr17 : r.length ≤ 17 := by have := HLR.out; omega
  have rz : (s.extract i s.size).size = s.size - i := by simp
  have rz1 : 0 < (s.extract i s.size).size := by omega
  have rz2 : (s.extract i s.size).size ≤ 100000 := by omega
  have G0 : Hid ((s.extract i s.size)[0]'rz1 = s.data.toList.getD i 0) := rest_get (s := s) (i := i) 0 rz1
  have RL := Lib.hid (rest_list s i)
  have q92 : ((((s.extract i s.size)[0]'rz1).toNat : Int) == 92) = true := by
    rw [G0.out]; exact isB (d := 92) rfl hc
  have rz3 : 1 < (s.extract i s.size).size := by omega
  have e1 : IntKind.i64.wrap ((i : Int) + 2) = ((i + 2 : Nat) : Int) := by rw [show (i : Int) + 2 = ((i + 2 : Nat) : Int) by omega]; exact IntWalk.i64_in _ (by omega)
  have ce : ∀ w, Calls Tryz.prog 96 #[.int .u8 (((s.extract i s.size)[1]'rz3).toNat : Int)] w fun e w' => e = .returned (.bool true) ∧ w = w' := fun w => by
    have := escaped_any ((s.extract i s.size)[1]'rz3) w
    rw [rest_get 1 rz3, he] at this
    rw [rest_get 1 rz3]
    exact this
  have RX : Hid (((s.extract i s.size).extract 1 2).data.toList = [s.data.toList.getD (i + 1) 0]) := by
    unfold Hid
    rw [cut_list, rest_list, List.drop_drop]
    have hlt : i + 1 < s.data.toList.length := by simpa using hn
    rw [List.drop_eq_getElem_cons hlt, List.getD_eq_getElem?_getD, List.getElem?_eq_getElem hlt]
    rfl
  have C0 := Lib.hid c0
  have H := Lib.hid h
  have HPD := Lib.hid (fun k => PSx.drewN h k)
  have HFS := Lib.hid hfs
  have HL := Lib.hid hl
  clear hc he hm hI h1 h17 h hl hfs G0 RL
  obtain ⟨R, hR⟩ : ∃ R, s.extract i s.size = R := ⟨_, rfl⟩
  rw [hR] at rz
  have RZ := Lib.hid rz
  clear rz
  simp only [hR] at rz1 rz2 rz3 q92 ce RX
  have rz4 : (2 : Int) ≤ (R.size : Int) := by omega
  go_enter Tryz.func78, Tryz.ntmps78
  go_wp2_with (first
    | (go_at_call 96; refine (ce _).mono ?_; rintro e w' ⟨rfl, rfl⟩)
    | fail)
  refine wp_region_held_drew (S := (fun w' => w'.cell? ⟨pb, 0, none⟩ = some (.string s))) (by kernel_rfl) ?_ (fun hHeld0 => ?_)
  · (try dsimp only)
    first | exact C0.out | exact z0
  refine wpAnyH_take (i := 0) (v := ?_) rfl (by kernel_rfl) (by kernel_rfl) (by kernel_rfl) (fun _ _ _ h => h) (Or.inl ⟨by kernel_rfl, ?_⟩) (by assumption) ?_
  rotate_left
  · (intro w hSw; (try dsimp only at hSw); go_simp; (first | done | with_reducible rfl))
  (try simp only [Act.put, List.setIfInBounds_toArray, List.set_cons_zero, List.set_cons_succ])
  refine wpAnyH_take (i := 4) (v := ?_) rfl (by kernel_rfl) (by kernel_rfl) (by kernel_rfl) (fun _ _ _ h => h) (Or.inl ⟨by kernel_rfl, ?_⟩) (by assumption) ?_
  rotate_left
  · (intro w hSw; (try dsimp only at hSw); go_simp; (first | done | with_reducible rfl))
  (try simp only [Act.put, List.setIfInBounds_toArray, List.set_cons_zero, List.set_cons_succ])
  refine wpAnyH_take (i := 5) (v := ?_) rfl (by kernel_rfl) (by kernel_rfl) (by kernel_rfl) (fun _ _ _ h => h) (Or.inl ⟨by kernel_rfl, ?_⟩) (by assumption) ?_
  rotate_left
  · (intro w hSw; (try dsimp only at hSw); go_simp; (first | done | with_reducible rfl))
  (try simp only [Act.put, List.setIfInBounds_toArray, List.set_cons_zero, List.set_cons_succ])
  refine wpAnyH_ready (rs := [1]) (by kernel_rfl) (by simp) ?_
  refine AllReadyH.cons rfl (fun K hK => ?_) AllReadyH.nil
  go_simp
  refine (top_any (n := r.length) (by rw [← HLR.out]; exact HPD.out _) (by omega)).mono ?_
  rintro e w3 ⟨rfl, kk, rfl⟩
  go_wp2_with fail
  refine hK.out _ _ ?_ (fun hHeld1 => ?_)
  · (try dsimp only)
    first | exact C0.out | exact z0
  clear hK K hHeld0
  (try simp only [Act.put, List.setIfInBounds_toArray, List.set_cons_zero, List.set_cons_succ])
  refine wpAnyH_take (i := 2) (v := ?_) rfl (by kernel_rfl) (by kernel_rfl) (by kernel_rfl) (fun _ _ _ h => h) (Or.inl ⟨by kernel_rfl, ?_⟩) (by assumption) ?_
  rotate_left
  · (intro w hSw; (try dsimp only at hSw); go_simp; (first | done | with_reducible rfl))
  (try simp only [Act.put, List.setIfInBounds_toArray, List.set_cons_zero, List.set_cons_succ])
  refine wpAnyH_take (i := 3) (v := ?_) rfl (by kernel_rfl) (by kernel_rfl) (by kernel_rfl) (fun _ _ _ h => h) (Or.inl ⟨by kernel_rfl, ?_⟩) (by assumption) ?_
  rotate_left
  · (intro w hSw; (try dsimp only at hSw); go_simp; (first | done | with_reducible rfl))
  (try simp only [Act.put, List.setIfInBounds_toArray, List.set_cons_zero, List.set_cons_succ])
  refine wpAnyH_ready (rs := [6]) (by kernel_rfl) (by simp) ?_
  refine AllReadyH.cons rfl (fun K hK => ?_) AllReadyH.nil
  go_simp
  refine (writeTop_any (HPD.out _) HFS.out (R.extract 1 2) (by simp; omega) (by omega)).mono ?_
  rintro e w4 ⟨rfl, col4, cs4, h4, st4⟩
  have st5 := st4.undrew
  have H4 := Lib.hid h4
  have ST4 := Lib.hid st5
  have z0 := h4.hp.cell 0
  clear h4 st4 st5
  go_wp2_with fail
  refine hK.out _ _ ?_ (fun hHeld2 => ?_)
  · (try dsimp only)
    first | exact C0.out | exact z0
  clear hK K hHeld1
  (try simp only [Act.put, List.setIfInBounds_toArray, List.set_cons_zero, List.set_cons_succ])
  refine wpAnyH_done (by kernel_rfl) ?_ _
  go_wp2
  go_ret
  refine ⟨rfl, col4, ob, cap, fv, cs4, gn, ?_, ST4.out⟩
  have e : (R.extract 1 2).data.toList = [s.data.toList.getD (i + 1) 0] := RX.out
  have H5 := H4.out
  rw [e] at H5
  rw [writeLen, ← HL.out]
  exact H5.on (by omega)
set_option maxRecDepth 100000 in
set_option maxHeartbeats 2000000 in
theorem step_code (h : PSx Tryz.prog w B col pb ob cap len s st i fv gb cs gn) (hl : len = st.fs.length) (hI : Inv st i) (hi : i < s.size) (hs : s.size ≤ 100000) (m : Int) (hm : w.cell? ⟨0, 0, none⟩ = some (.int .i64 m)) (hB : 0 < B) (hc : s.data.toList.getD i 0 = 96) :
    Calls Tryz.prog 78 #[.pointer (some ⟨pb, 0, none⟩), .int .i64 (i : Int)] w fun e w' => e = .returned (.int .i64 (((st.between s.data.toList i [96] [96] codeS).2 : Nat) : Int)) ∧ StepPost B pb s gb w col (st.between s.data.toList i [96] [96] codeS).1 ((st.between s.data.toList i [96] [96] codeS).2) w' := by
  have h17 := hI.2.2.2
  have h1 := hI.2.2.1
  have c0 := h.hp.cell 0
  obtain ⟨f, r, hfs⟩ : ∃ f r, st.fs = f :: r := by
    match hq : st.fs, hI.2.2.1 with
    | f :: r, _ => exact ⟨f, r, rfl⟩
    | [], hq2 => simp at hq2
  have hftx : f.row.tx.length ≤ 100000 := by
    have := hI.1
    rw [hfs, wtFs_cons] at this
    unfold wtF wtR at this
    omega
  have hflt : st.faults.length ≤ 10000000 := by have := hI.2.1; omega
  have HLR : Hid (len = r.length + 1) := by unfold Hid; rw [hl, hfs]; rfl
  have hr17 : r.length ≤ 17 := by have := HLR.out; omega
  have rz : (s.extract i s.size).size = s.size - i := by simp
  have rz1 : 0 < (s.extract i s.size).size := by omega
  have rz2 : (s.extract i s.size).size ≤ 100000 := by omega
  have G0 : Hid ((s.extract i s.size)[0]'rz1 = s.data.toList.getD i 0) := rest_get (s := s) (i := i) 0 rz1
  have RL := Lib.hid (rest_list s i)
  have q92 : ((((s.extract i s.size)[0]'rz1).toNat : Int) == 92) = false := by
    rw [G0.out]; exact neB (d := 92) rfl (by rw [hc]; decide)
  have q96 : ((((s.extract i s.size)[0]'rz1).toNat : Int) == 96) = true := by
    rw [G0.out]; exact isB (d := 96) rfl hc
  have cb : Calls Tryz.prog 98 #[.pointer (some ⟨pb, 0, none⟩), .int .i64 (i : Int), .string ⟨#[96]⟩, .string ⟨#[96]⟩, .func (.func 99) #[] #[]] w fun e w' => e = .returned (.int .i64 ((st.between s.data.toList i [96] [96] codeS).2 : Nat)) ∧ StepPost B pb s gb w col (st.between s.data.toList i [96] [96] codeS).1 (st.between s.data.toList i [96] [96] codeS).2 w' :=
    between_any h hl hI ⟨#[96]⟩ ⟨#[96]⟩ (by decide) (by decide) (by decide) (by decide) (by show i + 1 ≤ s.size; omega) hs _ m hm hB code_any (.inl rfl)
  have C0 := Lib.hid c0
  have H := Lib.hid h
  have HPD := Lib.hid (fun k => PSx.drewN h k)
  have HFS := Lib.hid hfs
  have HL := Lib.hid hl
  have HI := Lib.hid hI
  generalize st.between s.data.toList i [96] [96] codeS = bt at cb
  clear hc hm hI h1 h17 h hl hfs G0 RL
  obtain ⟨R, hR⟩ : ∃ R, s.extract i s.size = R := ⟨_, rfl⟩
  rw [hR] at rz
  have RZ := Lib.hid rz
  clear rz
  simp only [hR] at rz1 rz2 q92 q96
  go_enter Tryz.func78, Tryz.ntmps78
  go_wp2_with (first
    | (go_at_call 98; refine cb.mono ?_; rintro e w' ⟨rfl, hpost⟩)
    | fail)
  go_ret
  exact ⟨rfl, hpost⟩
set_option maxRecDepth 100000 in
set_option maxHeartbeats 2000000 in
theorem step_ref (h : PSx Tryz.prog w B col pb ob cap len s st i fv gb cs gn) (hl : len = st.fs.length) (hI : Inv st i) (hi : i < s.size) (hs : s.size ≤ 100000) (m : Int) (hm : w.cell? ⟨0, 0, none⟩ = some (.int .i64 m)) (hB : 0 < B) (hc : s.data.toList.getD i 0 = 60) (hp : [60, 60].isPrefixOf (s.data.toList.drop i) = true) :
    Calls Tryz.prog 78 #[.pointer (some ⟨pb, 0, none⟩), .int .i64 (i : Int)] w fun e w' => e = .returned (.int .i64 (((st.between s.data.toList i [60, 60] [62, 62] refS).2 : Nat) : Int)) ∧ StepPost B pb s gb w col (st.between s.data.toList i [60, 60] [62, 62] refS).1 ((st.between s.data.toList i [60, 60] [62, 62] refS).2) w' := by
  have h17 := hI.2.2.2
  have h1 := hI.2.2.1
  have c0 := h.hp.cell 0
  obtain ⟨f, r, hfs⟩ : ∃ f r, st.fs = f :: r := by
    match hq : st.fs, hI.2.2.1 with
    | f :: r, _ => exact ⟨f, r, rfl⟩
    | [], hq2 => simp at hq2
  have hftx : f.row.tx.length ≤ 100000 := by
    have := hI.1
    rw [hfs, wtFs_cons] at this
    unfold wtF wtR at this
    omega
  have hflt : st.faults.length ≤ 10000000 := by have := hI.2.1; omega
  have HLR : Hid (len = r.length + 1) := by unfold Hid; rw [hl, hfs]; rfl
  have hr17 : r.length ≤ 17 := by have := HLR.out; omega
  have rz : (s.extract i s.size).size = s.size - i := by simp
  have rz1 : 0 < (s.extract i s.size).size := by omega
  have rz2 : (s.extract i s.size).size ≤ 100000 := by omega
  have G0 : Hid ((s.extract i s.size)[0]'rz1 = s.data.toList.getD i 0) := rest_get (s := s) (i := i) 0 rz1
  have RL := Lib.hid (rest_list s i)
  have q92 : ((((s.extract i s.size)[0]'rz1).toNat : Int) == 92) = false := by
    rw [G0.out]; exact neB (d := 92) rfl (by rw [hc]; decide)
  have q96 : ((((s.extract i s.size)[0]'rz1).toNat : Int) == 96) = false := by
    rw [G0.out]; exact neB (d := 96) rfl (by rw [hc]; decide)
  have p60 : ∀ w, Calls Tryz.prog 40 #[.string (s.extract i s.size), .string ⟨#[60, 60]⟩] w fun e w' => e = .returned (.bool true) ∧ w' = w := fun w => by
    have := Tryz.strings_HasPrefix (s.extract i s.size) ⟨#[60, 60]⟩ w
    rw [pre_hasPrefix, RL.out, show (ByteArray.mk #[60, 60]).data.toList = [60, 60] from rfl, hp] at this
    exact this
  have cb : Calls Tryz.prog 98 #[.pointer (some ⟨pb, 0, none⟩), .int .i64 (i : Int), .string ⟨#[60, 60]⟩, .string ⟨#[62, 62]⟩, .func (.func 100) #[] #[]] w fun e w' => e = .returned (.int .i64 ((st.between s.data.toList i [60, 60] [62, 62] refS).2 : Nat)) ∧ StepPost B pb s gb w col (st.between s.data.toList i [60, 60] [62, 62] refS).1 (st.between s.data.toList i [60, 60] [62, 62] refS).2 w' :=
    between_any h hl hI ⟨#[60, 60]⟩ ⟨#[62, 62]⟩ (by decide) (by decide) (by decide) (by decide) (by have := prefix_two hp; simp at this; show i + 2 ≤ s.size; omega) hs _ m hm hB ref_any (.inr (.inl rfl))
  have C0 := Lib.hid c0
  have H := Lib.hid h
  have HPD := Lib.hid (fun k => PSx.drewN h k)
  have HFS := Lib.hid hfs
  have HL := Lib.hid hl
  have HI := Lib.hid hI
  generalize st.between s.data.toList i [60, 60] [62, 62] refS = bt at cb
  clear hc hm hI h1 h17 h hl hfs G0 RL
  obtain ⟨R, hR⟩ : ∃ R, s.extract i s.size = R := ⟨_, rfl⟩
  rw [hR] at rz
  have RZ := Lib.hid rz
  clear rz
  simp only [hR] at rz1 rz2 q92 q96 p60
  go_enter Tryz.func78, Tryz.ntmps78
  go_wp2_with (first
    | (go_at_call 40; (with_reducible refine (p60 _).mono ?_); rintro e w' ⟨rfl, rfl⟩)
    | (go_at_call 98; refine cb.mono ?_; rintro e w' ⟨rfl, hpost⟩)
    | fail)
  go_ret
  exact ⟨rfl, hpost⟩
set_option maxRecDepth 100000 in
set_option maxHeartbeats 2000000 in
theorem step_term (h : PSx Tryz.prog w B col pb ob cap len s st i fv gb cs gn) (hl : len = st.fs.length) (hI : Inv st i) (hi : i < s.size) (hs : s.size ≤ 100000) (m : Int) (hm : w.cell? ⟨0, 0, none⟩ = some (.int .i64 m)) (hB : 0 < B) (hc : s.data.toList.getD i 0 = 40) (hp : [40, 40].isPrefixOf (s.data.toList.drop i) = true) :
    Calls Tryz.prog 78 #[.pointer (some ⟨pb, 0, none⟩), .int .i64 (i : Int)] w fun e w' => e = .returned (.int .i64 (((st.between s.data.toList i [40, 40] [41, 41] termS).2 : Nat) : Int)) ∧ StepPost B pb s gb w col (st.between s.data.toList i [40, 40] [41, 41] termS).1 ((st.between s.data.toList i [40, 40] [41, 41] termS).2) w' := by
  have h17 := hI.2.2.2
  have h1 := hI.2.2.1
  have c0 := h.hp.cell 0
  obtain ⟨f, r, hfs⟩ : ∃ f r, st.fs = f :: r := by
    match hq : st.fs, hI.2.2.1 with
    | f :: r, _ => exact ⟨f, r, rfl⟩
    | [], hq2 => simp at hq2
  have hftx : f.row.tx.length ≤ 100000 := by
    have := hI.1
    rw [hfs, wtFs_cons] at this
    unfold wtF wtR at this
    omega
  have hflt : st.faults.length ≤ 10000000 := by have := hI.2.1; omega
  have HLR : Hid (len = r.length + 1) := by unfold Hid; rw [hl, hfs]; rfl
  have hr17 : r.length ≤ 17 := by have := HLR.out; omega
  have rz : (s.extract i s.size).size = s.size - i := by simp
  have rz1 : 0 < (s.extract i s.size).size := by omega
  have rz2 : (s.extract i s.size).size ≤ 100000 := by omega
  have G0 : Hid ((s.extract i s.size)[0]'rz1 = s.data.toList.getD i 0) := rest_get (s := s) (i := i) 0 rz1
  have RL := Lib.hid (rest_list s i)
  have q92 : ((((s.extract i s.size)[0]'rz1).toNat : Int) == 92) = false := by
    rw [G0.out]; exact neB (d := 92) rfl (by rw [hc]; decide)
  have q96 : ((((s.extract i s.size)[0]'rz1).toNat : Int) == 96) = false := by
    rw [G0.out]; exact neB (d := 96) rfl (by rw [hc]; decide)
  have p60 : ∀ w, Calls Tryz.prog 40 #[.string (s.extract i s.size), .string ⟨#[60, 60]⟩] w fun e w' => e = .returned (.bool false) ∧ w' = w := fun w => by
    have := Tryz.strings_HasPrefix (s.extract i s.size) ⟨#[60, 60]⟩ w
    rw [pre_hasPrefix, RL.out, show (ByteArray.mk #[60, 60]).data.toList = [60, 60] from rfl, pre_ne (by simpa using hi) (by rw [hc]; decide)] at this
    exact this
  have p40 : ∀ w, Calls Tryz.prog 40 #[.string (s.extract i s.size), .string ⟨#[40, 40]⟩] w fun e w' => e = .returned (.bool true) ∧ w' = w := fun w => by
    have := Tryz.strings_HasPrefix (s.extract i s.size) ⟨#[40, 40]⟩ w
    rw [pre_hasPrefix, RL.out, show (ByteArray.mk #[40, 40]).data.toList = [40, 40] from rfl, hp] at this
    exact this
  have cb : Calls Tryz.prog 98 #[.pointer (some ⟨pb, 0, none⟩), .int .i64 (i : Int), .string ⟨#[40, 40]⟩, .string ⟨#[41, 41]⟩, .func (.func 101) #[] #[]] w fun e w' => e = .returned (.int .i64 ((st.between s.data.toList i [40, 40] [41, 41] termS).2 : Nat)) ∧ StepPost B pb s gb w col (st.between s.data.toList i [40, 40] [41, 41] termS).1 (st.between s.data.toList i [40, 40] [41, 41] termS).2 w' :=
    between_any h hl hI ⟨#[40, 40]⟩ ⟨#[41, 41]⟩ (by decide) (by decide) (by decide) (by decide) (by have := prefix_two hp; simp at this; show i + 2 ≤ s.size; omega) hs _ m hm hB term_any (.inr (.inr rfl))
  have C0 := Lib.hid c0
  have H := Lib.hid h
  have HPD := Lib.hid (fun k => PSx.drewN h k)
  have HFS := Lib.hid hfs
  have HL := Lib.hid hl
  have HI := Lib.hid hI
  generalize st.between s.data.toList i [40, 40] [41, 41] termS = bt at cb
  clear hc hm hI h1 h17 h hl hfs G0 RL
  obtain ⟨R, hR⟩ : ∃ R, s.extract i s.size = R := ⟨_, rfl⟩
  rw [hR] at rz
  have RZ := Lib.hid rz
  clear rz
  simp only [hR] at rz1 rz2 q92 q96 p60 p40
  go_enter Tryz.func78, Tryz.ntmps78
  go_wp2_with (first
    | (go_at_call 40; (with_reducible refine (p60 _).mono ?_); rintro e w' ⟨rfl, rfl⟩)
    | (go_at_call 40; (with_reducible refine (p40 _).mono ?_); rintro e w' ⟨rfl, rfl⟩)
    | (go_at_call 98; refine cb.mono ?_; rintro e w' ⟨rfl, hpost⟩)
    | fail)
  go_ret
  exact ⟨rfl, hpost⟩
set_option maxRecDepth 100000 in
set_option maxHeartbeats 2000000 in
theorem step_note (h : PSx Tryz.prog w B col pb ob cap len s st i fv gb cs gn) (hl : len = st.fs.length) (hI : Inv st i) (hi : i < s.size) (hs : s.size ≤ 100000) (m : Int) (hm : w.cell? ⟨0, 0, none⟩ = some (.int .i64 m)) (hB : 0 < B) (hc : s.data.toList.getD i 0 = 94) (hp : [94, 91].isPrefixOf (s.data.toList.drop i) = true) (hr : st.room = true) :
    Calls Tryz.prog 78 #[.pointer (some ⟨pb, 0, none⟩), .int .i64 (i : Int)] w fun e w' => e = .returned (.int .i64 ((i + 2 : Nat) : Int)) ∧ StepPost B pb s gb w col (st.begin 6 i [94, 91]) (i + 2) w' := by
  have h17 := hI.2.2.2
  have h1 := hI.2.2.1
  have c0 := h.hp.cell 0
  obtain ⟨f, r, hfs⟩ : ∃ f r, st.fs = f :: r := by
    match hq : st.fs, hI.2.2.1 with
    | f :: r, _ => exact ⟨f, r, rfl⟩
    | [], hq2 => simp at hq2
  have hftx : f.row.tx.length ≤ 100000 := by
    have := hI.1
    rw [hfs, wtFs_cons] at this
    unfold wtF wtR at this
    omega
  have hflt : st.faults.length ≤ 10000000 := by have := hI.2.1; omega
  have HLR : Hid (len = r.length + 1) := by unfold Hid; rw [hl, hfs]; rfl
  have hr17 : r.length ≤ 17 := by have := HLR.out; omega
  have rz : (s.extract i s.size).size = s.size - i := by simp
  have rz1 : 0 < (s.extract i s.size).size := by omega
  have rz2 : (s.extract i s.size).size ≤ 100000 := by omega
  have G0 : Hid ((s.extract i s.size)[0]'rz1 = s.data.toList.getD i 0) := rest_get (s := s) (i := i) 0 rz1
  have RL := Lib.hid (rest_list s i)
  have q92 : ((((s.extract i s.size)[0]'rz1).toNat : Int) == 92) = false := by
    rw [G0.out]; exact neB (d := 92) rfl (by rw [hc]; decide)
  have q96 : ((((s.extract i s.size)[0]'rz1).toNat : Int) == 96) = false := by
    rw [G0.out]; exact neB (d := 96) rfl (by rw [hc]; decide)
  have p60 : ∀ w, Calls Tryz.prog 40 #[.string (s.extract i s.size), .string ⟨#[60, 60]⟩] w fun e w' => e = .returned (.bool false) ∧ w' = w := fun w => by
    have := Tryz.strings_HasPrefix (s.extract i s.size) ⟨#[60, 60]⟩ w
    rw [pre_hasPrefix, RL.out, show (ByteArray.mk #[60, 60]).data.toList = [60, 60] from rfl, pre_ne (by simpa using hi) (by rw [hc]; decide)] at this
    exact this
  have p40 : ∀ w, Calls Tryz.prog 40 #[.string (s.extract i s.size), .string ⟨#[40, 40]⟩] w fun e w' => e = .returned (.bool false) ∧ w' = w := fun w => by
    have := Tryz.strings_HasPrefix (s.extract i s.size) ⟨#[40, 40]⟩ w
    rw [pre_hasPrefix, RL.out, show (ByteArray.mk #[40, 40]).data.toList = [40, 40] from rfl, pre_ne (by simpa using hi) (by rw [hc]; decide)] at this
    exact this
  have p94 : ∀ w, Calls Tryz.prog 40 #[.string (s.extract i s.size), .string ⟨#[94, 91]⟩] w fun e w' => e = .returned (.bool true) ∧ w' = w := fun w => by
    have := Tryz.strings_HasPrefix (s.extract i s.size) ⟨#[94, 91]⟩ w
    rw [pre_hasPrefix, RL.out, show (ByteArray.mk #[94, 91]).data.toList = [94, 91] from rfl, hp] at this
    exact this
  have e1 : IntKind.i64.wrap ((i : Int) + 2) = ((i + 2 : Nat) : Int) := by rw [show (i : Int) + 2 = ((i + 2 : Nat) : Int) by omega]; exact IntWalk.i64_in _ (by omega)
  have hin := prefix_two hp
  simp only [Array.length_toList, ByteArray.size_data] at hin
  have cr := room_any h hl (by omega) (by omega)
  rw [hr] at cr
  have C0 := Lib.hid c0
  have H := Lib.hid h
  have HPD := Lib.hid (fun k => PSx.drewN h k)
  have HFS := Lib.hid hfs
  have HL := Lib.hid hl
  have HI := Lib.hid hI
  have cbg := begin_any h hl (by omega) 6 i [94, 91]
  clear hc hr hp hm hI h1 h17 h hl hfs G0 RL
  obtain ⟨R, hR⟩ : ∃ R, s.extract i s.size = R := ⟨_, rfl⟩
  rw [hR] at rz
  have RZ := Lib.hid rz
  clear rz
  simp only [hR] at rz1 rz2 q92 q96 p60 p40 p94
  go_enter Tryz.func78, Tryz.ntmps78
  go_wp2_with (first
    | (go_at_call 40; (with_reducible refine (p60 _).mono ?_); rintro e w' ⟨rfl, rfl⟩)
    | (go_at_call 40; (with_reducible refine (p40 _).mono ?_); rintro e w' ⟨rfl, rfl⟩)
    | (go_at_call 40; (with_reducible refine (p94 _).mono ?_); rintro e w' ⟨rfl, rfl⟩)
    | (go_at_call 102; refine cr.mono ?_; rintro e w' ⟨rfl, rfl⟩)
    | fail)
  refine cbg.mono ?_
  clear cbg
  rintro e w2 ⟨rfl, col2, ob2, cap2, cs2, h2, st2⟩
  have H2 := Lib.hid h2
  have ST2 := Lib.hid st2
  clear h2 st2
  go_wp2
  go_ret
  exact ⟨rfl, col2, ob2, cap2, fv, cs2, gn, by rw [beginLen, ← HL.out]; exact H2.out.on (by omega), ST2.out⟩
set_option maxRecDepth 100000 in
set_option maxHeartbeats 2000000 in
theorem step_full (h : PSx Tryz.prog w B col pb ob cap len s st i fv gb cs gn) (hl : len = st.fs.length) (hI : Inv st i) (hi : i < s.size) (hs : s.size ≤ 100000) (m : Int) (hm : w.cell? ⟨0, 0, none⟩ = some (.int .i64 m)) (hB : 0 < B) (hc : s.data.toList.getD i 0 = 94) (hp : [94, 91].isPrefixOf (s.data.toList.drop i) = true) (hr : st.room = false) :
    Calls Tryz.prog 78 #[.pointer (some ⟨pb, 0, none⟩), .int .i64 (i : Int)] w fun e w' => e = .returned (.int .i64 ((i + 2 : Nat) : Int)) ∧ StepPost B pb s gb w col ((st.write [94, 91]).tell i 7) (i + 2) w' := by
  have h17 := hI.2.2.2
  have h1 := hI.2.2.1
  have c0 := h.hp.cell 0
  obtain ⟨f, r, hfs⟩ : ∃ f r, st.fs = f :: r := by
    match hq : st.fs, hI.2.2.1 with
    | f :: r, _ => exact ⟨f, r, rfl⟩
    | [], hq2 => simp at hq2
  have hftx : f.row.tx.length ≤ 100000 := by
    have := hI.1
    rw [hfs, wtFs_cons] at this
    unfold wtF wtR at this
    omega
  have hflt : st.faults.length ≤ 10000000 := by have := hI.2.1; omega
  have HLR : Hid (len = r.length + 1) := by unfold Hid; rw [hl, hfs]; rfl
  have hr17 : r.length ≤ 17 := by have := HLR.out; omega
  have rz : (s.extract i s.size).size = s.size - i := by simp
  have rz1 : 0 < (s.extract i s.size).size := by omega
  have rz2 : (s.extract i s.size).size ≤ 100000 := by omega
  have G0 : Hid ((s.extract i s.size)[0]'rz1 = s.data.toList.getD i 0) := rest_get (s := s) (i := i) 0 rz1
  have RL := Lib.hid (rest_list s i)
  have q92 : ((((s.extract i s.size)[0]'rz1).toNat : Int) == 92) = false := by
    rw [G0.out]; exact neB (d := 92) rfl (by rw [hc]; decide)
  have q96 : ((((s.extract i s.size)[0]'rz1).toNat : Int) == 96) = false := by
    rw [G0.out]; exact neB (d := 96) rfl (by rw [hc]; decide)
  have p60 : ∀ w, Calls Tryz.prog 40 #[.string (s.extract i s.size), .string ⟨#[60, 60]⟩] w fun e w' => e = .returned (.bool false) ∧ w' = w := fun w => by
    have := Tryz.strings_HasPrefix (s.extract i s.size) ⟨#[60, 60]⟩ w
    rw [pre_hasPrefix, RL.out, show (ByteArray.mk #[60, 60]).data.toList = [60, 60] from rfl, pre_ne (by simpa using hi) (by rw [hc]; decide)] at this
    exact this
  have p40 : ∀ w, Calls Tryz.prog 40 #[.string (s.extract i s.size), .string ⟨#[40, 40]⟩] w fun e w' => e = .returned (.bool false) ∧ w' = w := fun w => by
    have := Tryz.strings_HasPrefix (s.extract i s.size) ⟨#[40, 40]⟩ w
    rw [pre_hasPrefix, RL.out, show (ByteArray.mk #[40, 40]).data.toList = [40, 40] from rfl, pre_ne (by simpa using hi) (by rw [hc]; decide)] at this
    exact this
  have p94 : ∀ w, Calls Tryz.prog 40 #[.string (s.extract i s.size), .string ⟨#[94, 91]⟩] w fun e w' => e = .returned (.bool true) ∧ w' = w := fun w => by
    have := Tryz.strings_HasPrefix (s.extract i s.size) ⟨#[94, 91]⟩ w
    rw [pre_hasPrefix, RL.out, show (ByteArray.mk #[94, 91]).data.toList = [94, 91] from rfl, hp] at this
    exact this
  have e1 : IntKind.i64.wrap ((i : Int) + 2) = ((i + 2 : Nat) : Int) := by rw [show (i : Int) + 2 = ((i + 2 : Nat) : Int) by omega]; exact IntWalk.i64_in _ (by omega)
  have hin := prefix_two hp
  simp only [Array.length_toList, ByteArray.size_data] at hin
  have cr := room_any h hl (by omega) (by omega)
  rw [hr] at cr
  have C0 := Lib.hid c0
  have H := Lib.hid h
  have HPD := Lib.hid (fun k => PSx.drewN h k)
  have HFS := Lib.hid hfs
  have HL := Lib.hid hl
  have HI := Lib.hid hI
  clear hc hr hp hm hI h1 h17 h hl hfs G0 RL
  obtain ⟨R, hR⟩ : ∃ R, s.extract i s.size = R := ⟨_, rfl⟩
  rw [hR] at rz
  have RZ := Lib.hid rz
  clear rz
  simp only [hR] at rz1 rz2 q92 q96 p60 p40 p94
  go_enter Tryz.func78, Tryz.ntmps78
  go_wp2_with (first
    | (go_at_call 40; (with_reducible refine (p60 _).mono ?_); rintro e w' ⟨rfl, rfl⟩)
    | (go_at_call 40; (with_reducible refine (p40 _).mono ?_); rintro e w' ⟨rfl, rfl⟩)
    | (go_at_call 40; (with_reducible refine (p94 _).mono ?_); rintro e w' ⟨rfl, rfl⟩)
    | (go_at_call 102; refine cr.mono ?_; rintro e w' ⟨rfl, rfl⟩)
    | fail)
  refine (top_any (n := r.length) (by rw [← HLR.out]; exact H.out) (by omega)).mono ?_
  rintro e w2 ⟨rfl, kk, rfl⟩
  go_wp2_with fail
  refine (writeTop_any (HPD.out kk) HFS.out ⟨#[94, 91]⟩ (by decide) (by omega)).mono ?_
  rintro e w3 ⟨rfl, col3, cs3, h3, st3⟩
  have H3 := Lib.hid h3
  have ST3 := Lib.hid st3.undrew
  clear h3 st3
  go_wp2_with fail
  refine (tell_any H3.out i 7 hflt).mono ?_
  rintro e w4 ⟨rfl, col4, fv4, h4, st4⟩
  have H4 := Lib.hid h4
  have ST4 := Lib.hid (ST3.out.trans st4)
  clear h4 st4
  go_wp2
  go_ret
  exact ⟨rfl, col4, ob, cap, fv4, cs3, gn, by rw [tellLen, writeLen, ← HL.out]; exact H4.out.on (by omega), ST4.out⟩
set_option maxRecDepth 100000 in
set_option maxHeartbeats 2000000 in
theorem step_shut (h : PSx Tryz.prog w B col pb ob cap len s st i fv gb cs gn) (hl : len = st.fs.length) (hI : Inv st i) (hi : i < s.size) (hs : s.size ≤ 100000) (m : Int) (hm : w.cell? ⟨0, 0, none⟩ = some (.int .i64 m)) (hB : 0 < B) (hc : s.data.toList.getD i 0 = 93) (hn : 0 < lastK 6 st.fs) :
    Calls Tryz.prog 78 #[.pointer (some ⟨pb, 0, none⟩), .int .i64 (i : Int)] w fun e w' => e = .returned (.int .i64 ((i + 1 : Nat) : Int)) ∧ StepPost B pb s gb w col (st.fin (lastK 6 st.fs)) (i + 1) w' := by
  have h17 := hI.2.2.2
  have h1 := hI.2.2.1
  have c0 := h.hp.cell 0
  obtain ⟨f, r, hfs⟩ : ∃ f r, st.fs = f :: r := by
    match hq : st.fs, hI.2.2.1 with
    | f :: r, _ => exact ⟨f, r, rfl⟩
    | [], hq2 => simp at hq2
  have hftx : f.row.tx.length ≤ 100000 := by
    have := hI.1
    rw [hfs, wtFs_cons] at this
    unfold wtF wtR at this
    omega
  have hflt : st.faults.length ≤ 10000000 := by have := hI.2.1; omega
  have HLR : Hid (len = r.length + 1) := by unfold Hid; rw [hl, hfs]; rfl
  have hr17 : r.length ≤ 17 := by have := HLR.out; omega
  have rz : (s.extract i s.size).size = s.size - i := by simp
  have rz1 : 0 < (s.extract i s.size).size := by omega
  have rz2 : (s.extract i s.size).size ≤ 100000 := by omega
  have G0 : Hid ((s.extract i s.size)[0]'rz1 = s.data.toList.getD i 0) := rest_get (s := s) (i := i) 0 rz1
  have RL := Lib.hid (rest_list s i)
  have q92 : ((((s.extract i s.size)[0]'rz1).toNat : Int) == 92) = false := by
    rw [G0.out]; exact neB (d := 92) rfl (by rw [hc]; decide)
  have q96 : ((((s.extract i s.size)[0]'rz1).toNat : Int) == 96) = false := by
    rw [G0.out]; exact neB (d := 96) rfl (by rw [hc]; decide)
  have q93 : ((((s.extract i s.size)[0]'rz1).toNat : Int) == 93) = true := by
    rw [G0.out]; exact isB (d := 93) rfl hc
  have p60 : ∀ w, Calls Tryz.prog 40 #[.string (s.extract i s.size), .string ⟨#[60, 60]⟩] w fun e w' => e = .returned (.bool false) ∧ w' = w := fun w => by
    have := Tryz.strings_HasPrefix (s.extract i s.size) ⟨#[60, 60]⟩ w
    rw [pre_hasPrefix, RL.out, show (ByteArray.mk #[60, 60]).data.toList = [60, 60] from rfl, pre_ne (by simpa using hi) (by rw [hc]; decide)] at this
    exact this
  have p40 : ∀ w, Calls Tryz.prog 40 #[.string (s.extract i s.size), .string ⟨#[40, 40]⟩] w fun e w' => e = .returned (.bool false) ∧ w' = w := fun w => by
    have := Tryz.strings_HasPrefix (s.extract i s.size) ⟨#[40, 40]⟩ w
    rw [pre_hasPrefix, RL.out, show (ByteArray.mk #[40, 40]).data.toList = [40, 40] from rfl, pre_ne (by simpa using hi) (by rw [hc]; decide)] at this
    exact this
  have p94 : ∀ w, Calls Tryz.prog 40 #[.string (s.extract i s.size), .string ⟨#[94, 91]⟩] w fun e w' => e = .returned (.bool false) ∧ w' = w := fun w => by
    have := Tryz.strings_HasPrefix (s.extract i s.size) ⟨#[94, 91]⟩ w
    rw [pre_hasPrefix, RL.out, show (ByteArray.mk #[94, 91]).data.toList = [94, 91] from rfl, pre_ne (by simpa using hi) (by rw [hc]; decide)] at this
    exact this
  have e1 : IntKind.i64.wrap ((i : Int) + 1) = ((i + 1 : Nat) : Int) := by rw [show (i : Int) + 1 = ((i + 1 : Nat) : Int) by omega]; exact IntWalk.i64_in _ (by omega)
  have cl := last_any h hl (by omega) (by omega) 6
  have hla : lastK 6 st.fs < len := by rcases lastK_lt 6 st.fs with h0 | h0 <;> omega
  have C0 := Lib.hid c0
  have H := Lib.hid h
  have HPD := Lib.hid (fun k => PSx.drewN h k)
  have HFS := Lib.hid hfs
  have HL := Lib.hid hl
  have HI := Lib.hid hI
  generalize lastK 6 st.fs = n at cl hla hn ⊢
  clear hc hm hI h1 h17 h hl hfs G0 RL
  obtain ⟨R, hR⟩ : ∃ R, s.extract i s.size = R := ⟨_, rfl⟩
  rw [hR] at rz
  have RZ := Lib.hid rz
  clear rz
  simp only [hR] at rz1 rz2 q92 q96 q93 p60 p40 p94
  go_enter Tryz.func78, Tryz.ntmps78
  go_wp2_with (first
    | (go_at_call 40; (with_reducible refine (p60 _).mono ?_); rintro e w' ⟨rfl, rfl⟩)
    | (go_at_call 40; (with_reducible refine (p40 _).mono ?_); rintro e w' ⟨rfl, rfl⟩)
    | (go_at_call 40; (with_reducible refine (p94 _).mono ?_); rintro e w' ⟨rfl, rfl⟩)
    | (go_at_call 105; refine cl.mono ?_; rintro e w' ⟨rfl, rfl⟩)
    | fail)
  refine (end_any H.out HL.out n (by omega) hla i HI.out (by omega)).mono ?_
  rintro e w2 ⟨rfl, col2, fv2, cs2, h2, st2⟩
  have H2 := Lib.hid h2
  have ST2 := Lib.hid st2
  clear h2 st2 cl
  go_wp2
  go_ret
  have hfl := finLen HI.out (n := n) (by omega) (by rw [← HL.out]; exact hla)
  exact ⟨rfl, col2, ob, cap, fv2, cs2, gn, by rw [hfl]; exact H2.out.on (by omega), ST2.out⟩
set_option maxRecDepth 100000 in
set_option maxHeartbeats 2000000 in
theorem step_starW (h : PSx Tryz.prog w B col pb ob cap len s st i fv gb cs gn) (hl : len = st.fs.length) (hI : Inv st i) (hi : i < s.size) (hs : s.size ≤ 100000) (m : Int) (hm : w.cell? ⟨0, 0, none⟩ = some (.int .i64 m)) (hB : 0 < B) (hc : s.data.toList.getD i 0 = 42) :
    Calls Tryz.prog 78 #[.pointer (some ⟨pb, 0, none⟩), .int .i64 (i : Int)] w fun e w' => e = .returned (.int .i64 ((i + 1 : Nat) : Int)) ∧ StepPost B pb s gb w col (st.mark s.data.toList i 1) (i + 1) w' := by
  have h17 := hI.2.2.2
  have h1 := hI.2.2.1
  have c0 := h.hp.cell 0
  obtain ⟨f, r, hfs⟩ : ∃ f r, st.fs = f :: r := by
    match hq : st.fs, hI.2.2.1 with
    | f :: r, _ => exact ⟨f, r, rfl⟩
    | [], hq2 => simp at hq2
  have hftx : f.row.tx.length ≤ 100000 := by
    have := hI.1
    rw [hfs, wtFs_cons] at this
    unfold wtF wtR at this
    omega
  have hflt : st.faults.length ≤ 10000000 := by have := hI.2.1; omega
  have HLR : Hid (len = r.length + 1) := by unfold Hid; rw [hl, hfs]; rfl
  have hr17 : r.length ≤ 17 := by have := HLR.out; omega
  have rz : (s.extract i s.size).size = s.size - i := by simp
  have rz1 : 0 < (s.extract i s.size).size := by omega
  have rz2 : (s.extract i s.size).size ≤ 100000 := by omega
  have G0 : Hid ((s.extract i s.size)[0]'rz1 = s.data.toList.getD i 0) := rest_get (s := s) (i := i) 0 rz1
  have RL := Lib.hid (rest_list s i)
  have q92 : ((((s.extract i s.size)[0]'rz1).toNat : Int) == 92) = false := by
    rw [G0.out]; exact neB (d := 92) rfl (by rw [hc]; decide)
  have q96 : ((((s.extract i s.size)[0]'rz1).toNat : Int) == 96) = false := by
    rw [G0.out]; exact neB (d := 96) rfl (by rw [hc]; decide)
  have q93 : ((((s.extract i s.size)[0]'rz1).toNat : Int) == 93) = false := by
    rw [G0.out]; exact neB (d := 93) rfl (by rw [hc]; decide)
  have q42 : ((((s.extract i s.size)[0]'rz1).toNat : Int) == 42) = true := by
    rw [G0.out]; exact isB (d := 42) rfl hc
  have p60 : ∀ w, Calls Tryz.prog 40 #[.string (s.extract i s.size), .string ⟨#[60, 60]⟩] w fun e w' => e = .returned (.bool false) ∧ w' = w := fun w => by
    have := Tryz.strings_HasPrefix (s.extract i s.size) ⟨#[60, 60]⟩ w
    rw [pre_hasPrefix, RL.out, show (ByteArray.mk #[60, 60]).data.toList = [60, 60] from rfl, pre_ne (by simpa using hi) (by rw [hc]; decide)] at this
    exact this
  have p40 : ∀ w, Calls Tryz.prog 40 #[.string (s.extract i s.size), .string ⟨#[40, 40]⟩] w fun e w' => e = .returned (.bool false) ∧ w' = w := fun w => by
    have := Tryz.strings_HasPrefix (s.extract i s.size) ⟨#[40, 40]⟩ w
    rw [pre_hasPrefix, RL.out, show (ByteArray.mk #[40, 40]).data.toList = [40, 40] from rfl, pre_ne (by simpa using hi) (by rw [hc]; decide)] at this
    exact this
  have p94 : ∀ w, Calls Tryz.prog 40 #[.string (s.extract i s.size), .string ⟨#[94, 91]⟩] w fun e w' => e = .returned (.bool false) ∧ w' = w := fun w => by
    have := Tryz.strings_HasPrefix (s.extract i s.size) ⟨#[94, 91]⟩ w
    rw [pre_hasPrefix, RL.out, show (ByteArray.mk #[94, 91]).data.toList = [94, 91] from rfl, pre_ne (by simpa using hi) (by rw [hc]; decide)] at this
    exact this
  have e1 : IntKind.i64.wrap ((i : Int) + 1) = ((i + 1 : Nat) : Int) := by rw [show (i : Int) + 1 = ((i + 1 : Nat) : Int) by omega]; exact IntWalk.i64_in _ (by omega)
  have cm := mark_any h hl hI hi hs 1
  have C0 := Lib.hid c0
  have H := Lib.hid h
  have HPD := Lib.hid (fun k => PSx.drewN h k)
  have HFS := Lib.hid hfs
  have HL := Lib.hid hl
  have HI := Lib.hid hI
  clear hc hm hI h1 h17 h hl hfs G0 RL
  obtain ⟨R, hR⟩ : ∃ R, s.extract i s.size = R := ⟨_, rfl⟩
  rw [hR] at rz
  have RZ := Lib.hid rz
  clear rz
  simp only [hR] at rz1 rz2 q92 q96 q93 q42 p60 p40 p94
  go_enter Tryz.func78, Tryz.ntmps78
  go_wp2_with (first
    | (go_at_call 40; (with_reducible refine (p60 _).mono ?_); rintro e w' ⟨rfl, rfl⟩)
    | (go_at_call 40; (with_reducible refine (p40 _).mono ?_); rintro e w' ⟨rfl, rfl⟩)
    | (go_at_call 40; (with_reducible refine (p94 _).mono ?_); rintro e w' ⟨rfl, rfl⟩)
    | fail)
  refine cm.mono ?_
  clear cm
  rintro e w2 ⟨rfl, col2, ob2, cap2, fv2, cs2, h2, st2⟩
  have H2 := Lib.hid h2
  have ST2 := Lib.hid st2
  clear h2 st2
  go_wp2
  go_ret
  exact ⟨rfl, col2, ob2, cap2, fv2, cs2, gn, H2.out.on (by omega), ST2.out⟩
set_option maxRecDepth 100000 in
set_option maxHeartbeats 2000000 in
theorem step_barW (h : PSx Tryz.prog w B col pb ob cap len s st i fv gb cs gn) (hl : len = st.fs.length) (hI : Inv st i) (hi : i < s.size) (hs : s.size ≤ 100000) (m : Int) (hm : w.cell? ⟨0, 0, none⟩ = some (.int .i64 m)) (hB : 0 < B) (hc : s.data.toList.getD i 0 = 95) :
    Calls Tryz.prog 78 #[.pointer (some ⟨pb, 0, none⟩), .int .i64 (i : Int)] w fun e w' => e = .returned (.int .i64 ((i + 1 : Nat) : Int)) ∧ StepPost B pb s gb w col (st.mark s.data.toList i 2) (i + 1) w' := by
  have h17 := hI.2.2.2
  have h1 := hI.2.2.1
  have c0 := h.hp.cell 0
  obtain ⟨f, r, hfs⟩ : ∃ f r, st.fs = f :: r := by
    match hq : st.fs, hI.2.2.1 with
    | f :: r, _ => exact ⟨f, r, rfl⟩
    | [], hq2 => simp at hq2
  have hftx : f.row.tx.length ≤ 100000 := by
    have := hI.1
    rw [hfs, wtFs_cons] at this
    unfold wtF wtR at this
    omega
  have hflt : st.faults.length ≤ 10000000 := by have := hI.2.1; omega
  have HLR : Hid (len = r.length + 1) := by unfold Hid; rw [hl, hfs]; rfl
  have hr17 : r.length ≤ 17 := by have := HLR.out; omega
  have rz : (s.extract i s.size).size = s.size - i := by simp
  have rz1 : 0 < (s.extract i s.size).size := by omega
  have rz2 : (s.extract i s.size).size ≤ 100000 := by omega
  have G0 : Hid ((s.extract i s.size)[0]'rz1 = s.data.toList.getD i 0) := rest_get (s := s) (i := i) 0 rz1
  have RL := Lib.hid (rest_list s i)
  have q92 : ((((s.extract i s.size)[0]'rz1).toNat : Int) == 92) = false := by
    rw [G0.out]; exact neB (d := 92) rfl (by rw [hc]; decide)
  have q96 : ((((s.extract i s.size)[0]'rz1).toNat : Int) == 96) = false := by
    rw [G0.out]; exact neB (d := 96) rfl (by rw [hc]; decide)
  have q93 : ((((s.extract i s.size)[0]'rz1).toNat : Int) == 93) = false := by
    rw [G0.out]; exact neB (d := 93) rfl (by rw [hc]; decide)
  have q42 : ((((s.extract i s.size)[0]'rz1).toNat : Int) == 42) = false := by
    rw [G0.out]; exact neB (d := 42) rfl (by rw [hc]; decide)
  have q95 : ((((s.extract i s.size)[0]'rz1).toNat : Int) == 95) = true := by
    rw [G0.out]; exact isB (d := 95) rfl hc
  have p60 : ∀ w, Calls Tryz.prog 40 #[.string (s.extract i s.size), .string ⟨#[60, 60]⟩] w fun e w' => e = .returned (.bool false) ∧ w' = w := fun w => by
    have := Tryz.strings_HasPrefix (s.extract i s.size) ⟨#[60, 60]⟩ w
    rw [pre_hasPrefix, RL.out, show (ByteArray.mk #[60, 60]).data.toList = [60, 60] from rfl, pre_ne (by simpa using hi) (by rw [hc]; decide)] at this
    exact this
  have p40 : ∀ w, Calls Tryz.prog 40 #[.string (s.extract i s.size), .string ⟨#[40, 40]⟩] w fun e w' => e = .returned (.bool false) ∧ w' = w := fun w => by
    have := Tryz.strings_HasPrefix (s.extract i s.size) ⟨#[40, 40]⟩ w
    rw [pre_hasPrefix, RL.out, show (ByteArray.mk #[40, 40]).data.toList = [40, 40] from rfl, pre_ne (by simpa using hi) (by rw [hc]; decide)] at this
    exact this
  have p94 : ∀ w, Calls Tryz.prog 40 #[.string (s.extract i s.size), .string ⟨#[94, 91]⟩] w fun e w' => e = .returned (.bool false) ∧ w' = w := fun w => by
    have := Tryz.strings_HasPrefix (s.extract i s.size) ⟨#[94, 91]⟩ w
    rw [pre_hasPrefix, RL.out, show (ByteArray.mk #[94, 91]).data.toList = [94, 91] from rfl, pre_ne (by simpa using hi) (by rw [hc]; decide)] at this
    exact this
  have e1 : IntKind.i64.wrap ((i : Int) + 1) = ((i + 1 : Nat) : Int) := by rw [show (i : Int) + 1 = ((i + 1 : Nat) : Int) by omega]; exact IntWalk.i64_in _ (by omega)
  have cm := mark_any h hl hI hi hs 2
  have C0 := Lib.hid c0
  have H := Lib.hid h
  have HPD := Lib.hid (fun k => PSx.drewN h k)
  have HFS := Lib.hid hfs
  have HL := Lib.hid hl
  have HI := Lib.hid hI
  clear hc hm hI h1 h17 h hl hfs G0 RL
  obtain ⟨R, hR⟩ : ∃ R, s.extract i s.size = R := ⟨_, rfl⟩
  rw [hR] at rz
  have RZ := Lib.hid rz
  clear rz
  simp only [hR] at rz1 rz2 q92 q96 q93 q42 q95 p60 p40 p94
  go_enter Tryz.func78, Tryz.ntmps78
  go_wp2_with (first
    | (go_at_call 40; (with_reducible refine (p60 _).mono ?_); rintro e w' ⟨rfl, rfl⟩)
    | (go_at_call 40; (with_reducible refine (p40 _).mono ?_); rintro e w' ⟨rfl, rfl⟩)
    | (go_at_call 40; (with_reducible refine (p94 _).mono ?_); rintro e w' ⟨rfl, rfl⟩)
    | fail)
  refine cm.mono ?_
  clear cm
  rintro e w2 ⟨rfl, col2, ob2, cap2, fv2, cs2, h2, st2⟩
  have H2 := Lib.hid h2
  have ST2 := Lib.hid st2
  clear h2 st2
  go_wp2
  go_ret
  exact ⟨rfl, col2, ob2, cap2, fv2, cs2, gn, H2.out.on (by omega), ST2.out⟩
set_option maxRecDepth 100000 in
set_option maxHeartbeats 2000000 in
theorem step_short (h : PSx Tryz.prog w B col pb ob cap len s st i fv gb cs gn) (hl : len = st.fs.length) (hI : Inv st i) (hi : i < s.size) (hs : s.size ≤ 100000) (m : Int) (hm : w.cell? ⟨0, 0, none⟩ = some (.int .i64 m)) (hB : 0 < B) (hc : s.data.toList.getD i 0 = 92) (hn : ¬ i + 1 < s.size) :
    Calls Tryz.prog 78 #[.pointer (some ⟨pb, 0, none⟩), .int .i64 (i : Int)] w fun e w' => e = .returned (.int .i64 ((i + 1 : Nat) : Int)) ∧ StepPost B pb s gb w col (st.write [s.data.toList.getD i 0]) (i + 1) w' := by
  have h17 := hI.2.2.2
  have h1 := hI.2.2.1
  have c0 := h.hp.cell 0
  obtain ⟨f, r, hfs⟩ : ∃ f r, st.fs = f :: r := by
    match hq : st.fs, hI.2.2.1 with
    | f :: r, _ => exact ⟨f, r, rfl⟩
    | [], hq2 => simp at hq2
  have hftx : f.row.tx.length ≤ 100000 := by
    have := hI.1
    rw [hfs, wtFs_cons] at this
    unfold wtF wtR at this
    omega
  have hflt : st.faults.length ≤ 10000000 := by have := hI.2.1; omega
  have HLR : Hid (len = r.length + 1) := by unfold Hid; rw [hl, hfs]; rfl
  have hr17 : r.length ≤ 17 := by have := HLR.out; omega
  have rz : (s.extract i s.size).size = s.size - i := by simp
  have rz1 : 0 < (s.extract i s.size).size := by omega
  have rz2 : (s.extract i s.size).size ≤ 100000 := by omega
  have G0 : Hid ((s.extract i s.size)[0]'rz1 = s.data.toList.getD i 0) := rest_get (s := s) (i := i) 0 rz1
  have RL := Lib.hid (rest_list s i)
  have q92 : ((((s.extract i s.size)[0]'rz1).toNat : Int) == 92) = true := by
    rw [G0.out]; exact isB (d := 92) rfl hc
  have q96 : ((((s.extract i s.size)[0]'rz1).toNat : Int) == 96) = false := by
    rw [G0.out]; exact neB (d := 96) rfl (by rw [hc]; decide)
  have q93 : ((((s.extract i s.size)[0]'rz1).toNat : Int) == 93) = false := by
    rw [G0.out]; exact neB (d := 93) rfl (by rw [hc]; decide)
  have q42 : ((((s.extract i s.size)[0]'rz1).toNat : Int) == 42) = false := by
    rw [G0.out]; exact neB (d := 42) rfl (by rw [hc]; decide)
  have q95 : ((((s.extract i s.size)[0]'rz1).toNat : Int) == 95) = false := by
    rw [G0.out]; exact neB (d := 95) rfl (by rw [hc]; decide)
  have p60 : ∀ w, Calls Tryz.prog 40 #[.string (s.extract i s.size), .string ⟨#[60, 60]⟩] w fun e w' => e = .returned (.bool false) ∧ w' = w := fun w => by
    have := Tryz.strings_HasPrefix (s.extract i s.size) ⟨#[60, 60]⟩ w
    rw [pre_hasPrefix, RL.out, show (ByteArray.mk #[60, 60]).data.toList = [60, 60] from rfl, pre_ne (by simpa using hi) (by rw [hc]; decide)] at this
    exact this
  have p40 : ∀ w, Calls Tryz.prog 40 #[.string (s.extract i s.size), .string ⟨#[40, 40]⟩] w fun e w' => e = .returned (.bool false) ∧ w' = w := fun w => by
    have := Tryz.strings_HasPrefix (s.extract i s.size) ⟨#[40, 40]⟩ w
    rw [pre_hasPrefix, RL.out, show (ByteArray.mk #[40, 40]).data.toList = [40, 40] from rfl, pre_ne (by simpa using hi) (by rw [hc]; decide)] at this
    exact this
  have p94 : ∀ w, Calls Tryz.prog 40 #[.string (s.extract i s.size), .string ⟨#[94, 91]⟩] w fun e w' => e = .returned (.bool false) ∧ w' = w := fun w => by
    have := Tryz.strings_HasPrefix (s.extract i s.size) ⟨#[94, 91]⟩ w
    rw [pre_hasPrefix, RL.out, show (ByteArray.mk #[94, 91]).data.toList = [94, 91] from rfl, pre_ne (by simpa using hi) (by rw [hc]; decide)] at this
    exact this
  have e1 : IntKind.i64.wrap ((i : Int) + 1) = ((i + 1 : Nat) : Int) := by rw [show (i : Int) + 1 = ((i + 1 : Nat) : Int) by omega]; exact IntWalk.i64_in _ (by omega)
  have RX : Hid (((s.extract i s.size).extract 0 1).data.toList = [s.data.toList.getD i 0]) := by
    unfold Hid
    rw [cut_list, rest_list, List.drop_drop]
    have hlt : i < s.data.toList.length := by simpa using hi
    rw [Nat.add_zero, List.drop_eq_getElem_cons hlt, List.getD_eq_getElem?_getD, List.getElem?_eq_getElem hlt]
    rfl
  have rz3 : ((s.extract i s.size).size : Int) ≤ 1 := by omega
  have C0 := Lib.hid c0
  have H := Lib.hid h
  have HPD := Lib.hid (fun k => PSx.drewN h k)
  have HFS := Lib.hid hfs
  have HL := Lib.hid hl
  have HI := Lib.hid hI
  have rz4 : (1 : Int) ≤ ((s.extract i s.size).size : Int) := by omega
  clear hc hn hm hI h1 h17 h hl hfs G0 RL
  obtain ⟨R, hR⟩ : ∃ R, s.extract i s.size = R := ⟨_, rfl⟩
  rw [hR] at rz
  have RZ := Lib.hid rz
  clear rz
  simp only [hR] at rz1 rz2 q92 q96 q93 q42 q95 p60 p40 p94 RX rz4 rz3
  go_enter Tryz.func78, Tryz.ntmps78
  go_wp2_with (first
    | (go_at_call 40; (with_reducible refine (p60 _).mono ?_); rintro e w' ⟨rfl, rfl⟩)
    | (go_at_call 40; (with_reducible refine (p40 _).mono ?_); rintro e w' ⟨rfl, rfl⟩)
    | (go_at_call 40; (with_reducible refine (p94 _).mono ?_); rintro e w' ⟨rfl, rfl⟩)
    | fail)
  refine wp_region_held_drew (S := (fun w' => w'.cell? ⟨pb, 0, none⟩ = some (.string s))) (by kernel_rfl) ?_ (fun hHeld0 => ?_)
  · (try dsimp only)
    first | exact C0.out | exact z0
  refine wpAnyH_take (i := 0) (v := ?_) rfl (by kernel_rfl) (by kernel_rfl) (by kernel_rfl) (fun _ _ _ h => h) (Or.inl ⟨by kernel_rfl, ?_⟩) (by assumption) ?_
  rotate_left
  · (intro w hSw; (try dsimp only at hSw); go_simp; (first | done | with_reducible rfl))
  (try simp only [Act.put, List.setIfInBounds_toArray, List.set_cons_zero, List.set_cons_succ])
  refine wpAnyH_take (i := 4) (v := ?_) rfl (by kernel_rfl) (by kernel_rfl) (by kernel_rfl) (fun _ _ _ h => h) (Or.inl ⟨by kernel_rfl, ?_⟩) (by assumption) ?_
  rotate_left
  · (intro w hSw; (try dsimp only at hSw); go_simp; (first | done | with_reducible rfl))
  (try simp only [Act.put, List.setIfInBounds_toArray, List.set_cons_zero, List.set_cons_succ])
  refine wpAnyH_take (i := 5) (v := ?_) rfl (by kernel_rfl) (by kernel_rfl) (by kernel_rfl) (fun _ _ _ h => h) (Or.inl ⟨by kernel_rfl, ?_⟩) (by assumption) ?_
  rotate_left
  · (intro w hSw; (try dsimp only at hSw); go_simp; (first | done | with_reducible rfl))
  (try simp only [Act.put, List.setIfInBounds_toArray, List.set_cons_zero, List.set_cons_succ])
  refine wpAnyH_ready (rs := [1]) (by kernel_rfl) (by simp) ?_
  refine AllReadyH.cons rfl (fun K hK => ?_) AllReadyH.nil
  go_simp
  refine (top_any (n := r.length) (by rw [← HLR.out]; exact HPD.out _) (by omega)).mono ?_
  rintro e w3 ⟨rfl, kk, rfl⟩
  go_wp2_with fail
  refine hK.out _ _ ?_ (fun hHeld1 => ?_)
  · (try dsimp only)
    first | exact C0.out | exact z0
  clear hK K hHeld0
  (try simp only [Act.put, List.setIfInBounds_toArray, List.set_cons_zero, List.set_cons_succ])
  refine wpAnyH_take (i := 2) (v := ?_) rfl (by kernel_rfl) (by kernel_rfl) (by kernel_rfl) (fun _ _ _ h => h) (Or.inl ⟨by kernel_rfl, ?_⟩) (by assumption) ?_
  rotate_left
  · (intro w hSw; (try dsimp only at hSw); go_simp; (first | done | with_reducible rfl))
  (try simp only [Act.put, List.setIfInBounds_toArray, List.set_cons_zero, List.set_cons_succ])
  refine wpAnyH_take (i := 3) (v := ?_) rfl (by kernel_rfl) (by kernel_rfl) (by kernel_rfl) (fun _ _ _ h => h) (Or.inl ⟨by kernel_rfl, ?_⟩) (by assumption) ?_
  rotate_left
  · (intro w hSw; (try dsimp only at hSw); go_simp; (first | done | with_reducible rfl))
  (try simp only [Act.put, List.setIfInBounds_toArray, List.set_cons_zero, List.set_cons_succ])
  refine wpAnyH_ready (rs := [6]) (by kernel_rfl) (by simp) ?_
  refine AllReadyH.cons rfl (fun K hK => ?_) AllReadyH.nil
  go_simp
  refine (writeTop_any (HPD.out _) HFS.out (R.extract 0 1) (by simp; omega) (by omega)).mono ?_
  rintro e w4 ⟨rfl, col4, cs4, h4, st4⟩
  have st5 := st4.undrew
  have H4 := Lib.hid h4
  have ST4 := Lib.hid st5
  have z0 := h4.hp.cell 0
  clear h4 st4 st5
  go_wp2_with fail
  refine hK.out _ _ ?_ (fun hHeld2 => ?_)
  · (try dsimp only)
    first | exact C0.out | exact z0
  clear hK K hHeld1
  (try simp only [Act.put, List.setIfInBounds_toArray, List.set_cons_zero, List.set_cons_succ])
  refine wpAnyH_done (by kernel_rfl) ?_ _
  go_wp2
  go_ret
  refine ⟨rfl, col4, ob, cap, fv, cs4, gn, ?_, ST4.out⟩
  have e : (R.extract 0 1).data.toList = [s.data.toList.getD i 0] := RX.out
  have H5 := H4.out
  rw [e] at H5
  rw [writeLen, ← HL.out]
  exact H5.on (by omega)
set_option maxRecDepth 100000 in
set_option maxHeartbeats 2000000 in
theorem step_back (h : PSx Tryz.prog w B col pb ob cap len s st i fv gb cs gn) (hl : len = st.fs.length) (hI : Inv st i) (hi : i < s.size) (hs : s.size ≤ 100000) (m : Int) (hm : w.cell? ⟨0, 0, none⟩ = some (.int .i64 m)) (hB : 0 < B) (hc : s.data.toList.getD i 0 = 92) (hn : i + 1 < s.size) (he : escB (s.data.toList.getD (i + 1) 0) = false) :
    Calls Tryz.prog 78 #[.pointer (some ⟨pb, 0, none⟩), .int .i64 (i : Int)] w fun e w' => e = .returned (.int .i64 ((i + 1 : Nat) : Int)) ∧ StepPost B pb s gb w col (st.write [s.data.toList.getD i 0]) (i + 1) w' := by
  have h17 := hI.2.2.2
  have h1 := hI.2.2.1
  have c0 := h.hp.cell 0
  obtain ⟨f, r, hfs⟩ : ∃ f r, st.fs = f :: r := by
    match hq : st.fs, hI.2.2.1 with
    | f :: r, _ => exact ⟨f, r, rfl⟩
    | [], hq2 => simp at hq2
  have hftx : f.row.tx.length ≤ 100000 := by
    have := hI.1
    rw [hfs, wtFs_cons] at this
    unfold wtF wtR at this
    omega
  have hflt : st.faults.length ≤ 10000000 := by have := hI.2.1; omega
  have HLR : Hid (len = r.length + 1) := by unfold Hid; rw [hl, hfs]; rfl
  have hr17 : r.length ≤ 17 := by have := HLR.out; omega
  have rz : (s.extract i s.size).size = s.size - i := by simp
  have rz1 : 0 < (s.extract i s.size).size := by omega
  have rz2 : (s.extract i s.size).size ≤ 100000 := by omega
  have G0 : Hid ((s.extract i s.size)[0]'rz1 = s.data.toList.getD i 0) := rest_get (s := s) (i := i) 0 rz1
  have RL := Lib.hid (rest_list s i)
  have q92 : ((((s.extract i s.size)[0]'rz1).toNat : Int) == 92) = true := by
    rw [G0.out]; exact isB (d := 92) rfl hc
  have q96 : ((((s.extract i s.size)[0]'rz1).toNat : Int) == 96) = false := by
    rw [G0.out]; exact neB (d := 96) rfl (by rw [hc]; decide)
  have q93 : ((((s.extract i s.size)[0]'rz1).toNat : Int) == 93) = false := by
    rw [G0.out]; exact neB (d := 93) rfl (by rw [hc]; decide)
  have q42 : ((((s.extract i s.size)[0]'rz1).toNat : Int) == 42) = false := by
    rw [G0.out]; exact neB (d := 42) rfl (by rw [hc]; decide)
  have q95 : ((((s.extract i s.size)[0]'rz1).toNat : Int) == 95) = false := by
    rw [G0.out]; exact neB (d := 95) rfl (by rw [hc]; decide)
  have p60 : ∀ w, Calls Tryz.prog 40 #[.string (s.extract i s.size), .string ⟨#[60, 60]⟩] w fun e w' => e = .returned (.bool false) ∧ w' = w := fun w => by
    have := Tryz.strings_HasPrefix (s.extract i s.size) ⟨#[60, 60]⟩ w
    rw [pre_hasPrefix, RL.out, show (ByteArray.mk #[60, 60]).data.toList = [60, 60] from rfl, pre_ne (by simpa using hi) (by rw [hc]; decide)] at this
    exact this
  have p40 : ∀ w, Calls Tryz.prog 40 #[.string (s.extract i s.size), .string ⟨#[40, 40]⟩] w fun e w' => e = .returned (.bool false) ∧ w' = w := fun w => by
    have := Tryz.strings_HasPrefix (s.extract i s.size) ⟨#[40, 40]⟩ w
    rw [pre_hasPrefix, RL.out, show (ByteArray.mk #[40, 40]).data.toList = [40, 40] from rfl, pre_ne (by simpa using hi) (by rw [hc]; decide)] at this
    exact this
  have p94 : ∀ w, Calls Tryz.prog 40 #[.string (s.extract i s.size), .string ⟨#[94, 91]⟩] w fun e w' => e = .returned (.bool false) ∧ w' = w := fun w => by
    have := Tryz.strings_HasPrefix (s.extract i s.size) ⟨#[94, 91]⟩ w
    rw [pre_hasPrefix, RL.out, show (ByteArray.mk #[94, 91]).data.toList = [94, 91] from rfl, pre_ne (by simpa using hi) (by rw [hc]; decide)] at this
    exact this
  have e1 : IntKind.i64.wrap ((i : Int) + 1) = ((i + 1 : Nat) : Int) := by rw [show (i : Int) + 1 = ((i + 1 : Nat) : Int) by omega]; exact IntWalk.i64_in _ (by omega)
  have RX : Hid (((s.extract i s.size).extract 0 1).data.toList = [s.data.toList.getD i 0]) := by
    unfold Hid
    rw [cut_list, rest_list, List.drop_drop]
    have hlt : i < s.data.toList.length := by simpa using hi
    rw [Nat.add_zero, List.drop_eq_getElem_cons hlt, List.getD_eq_getElem?_getD, List.getElem?_eq_getElem hlt]
    rfl
  have rz3 : 1 < (s.extract i s.size).size := by omega
  have ce : ∀ w, Calls Tryz.prog 96 #[.int .u8 (((s.extract i s.size)[1]'rz3).toNat : Int)] w fun e w' => e = .returned (.bool false) ∧ w = w' := fun w => by
    have := escaped_any ((s.extract i s.size)[1]'rz3) w
    rw [rest_get 1 rz3, he] at this
    rw [rest_get 1 rz3]
    exact this
  have C0 := Lib.hid c0
  have H := Lib.hid h
  have HPD := Lib.hid (fun k => PSx.drewN h k)
  have HFS := Lib.hid hfs
  have HL := Lib.hid hl
  have HI := Lib.hid hI
  have rz4 : (1 : Int) ≤ ((s.extract i s.size).size : Int) := by omega
  clear hc he hm hI h1 h17 h hl hfs G0 RL
  obtain ⟨R, hR⟩ : ∃ R, s.extract i s.size = R := ⟨_, rfl⟩
  rw [hR] at rz
  have RZ := Lib.hid rz
  clear rz
  simp only [hR] at rz1 rz2 q92 q96 q93 q42 q95 p60 p40 p94 RX rz4 rz3 ce
  go_enter Tryz.func78, Tryz.ntmps78
  go_wp2_with (first
    | (go_at_call 40; (with_reducible refine (p60 _).mono ?_); rintro e w' ⟨rfl, rfl⟩)
    | (go_at_call 40; (with_reducible refine (p40 _).mono ?_); rintro e w' ⟨rfl, rfl⟩)
    | (go_at_call 40; (with_reducible refine (p94 _).mono ?_); rintro e w' ⟨rfl, rfl⟩)
    | (go_at_call 96; refine (ce _).mono ?_; rintro e w' ⟨rfl, rfl⟩)
    | fail)
  refine wp_region_held_drew (S := (fun w' => w'.cell? ⟨pb, 0, none⟩ = some (.string s))) (by kernel_rfl) ?_ (fun hHeld0 => ?_)
  · (try dsimp only)
    first | exact C0.out | exact z0
  refine wpAnyH_take (i := 0) (v := ?_) rfl (by kernel_rfl) (by kernel_rfl) (by kernel_rfl) (fun _ _ _ h => h) (Or.inl ⟨by kernel_rfl, ?_⟩) (by assumption) ?_
  rotate_left
  · (intro w hSw; (try dsimp only at hSw); go_simp; (first | done | with_reducible rfl))
  (try simp only [Act.put, List.setIfInBounds_toArray, List.set_cons_zero, List.set_cons_succ])
  refine wpAnyH_take (i := 4) (v := ?_) rfl (by kernel_rfl) (by kernel_rfl) (by kernel_rfl) (fun _ _ _ h => h) (Or.inl ⟨by kernel_rfl, ?_⟩) (by assumption) ?_
  rotate_left
  · (intro w hSw; (try dsimp only at hSw); go_simp; (first | done | with_reducible rfl))
  (try simp only [Act.put, List.setIfInBounds_toArray, List.set_cons_zero, List.set_cons_succ])
  refine wpAnyH_take (i := 5) (v := ?_) rfl (by kernel_rfl) (by kernel_rfl) (by kernel_rfl) (fun _ _ _ h => h) (Or.inl ⟨by kernel_rfl, ?_⟩) (by assumption) ?_
  rotate_left
  · (intro w hSw; (try dsimp only at hSw); go_simp; (first | done | with_reducible rfl))
  (try simp only [Act.put, List.setIfInBounds_toArray, List.set_cons_zero, List.set_cons_succ])
  refine wpAnyH_ready (rs := [1]) (by kernel_rfl) (by simp) ?_
  refine AllReadyH.cons rfl (fun K hK => ?_) AllReadyH.nil
  go_simp
  refine (top_any (n := r.length) (by rw [← HLR.out]; exact HPD.out _) (by omega)).mono ?_
  rintro e w3 ⟨rfl, kk, rfl⟩
  go_wp2_with fail
  refine hK.out _ _ ?_ (fun hHeld1 => ?_)
  · (try dsimp only)
    first | exact C0.out | exact z0
  clear hK K hHeld0
  (try simp only [Act.put, List.setIfInBounds_toArray, List.set_cons_zero, List.set_cons_succ])
  refine wpAnyH_take (i := 2) (v := ?_) rfl (by kernel_rfl) (by kernel_rfl) (by kernel_rfl) (fun _ _ _ h => h) (Or.inl ⟨by kernel_rfl, ?_⟩) (by assumption) ?_
  rotate_left
  · (intro w hSw; (try dsimp only at hSw); go_simp; (first | done | with_reducible rfl))
  (try simp only [Act.put, List.setIfInBounds_toArray, List.set_cons_zero, List.set_cons_succ])
  refine wpAnyH_take (i := 3) (v := ?_) rfl (by kernel_rfl) (by kernel_rfl) (by kernel_rfl) (fun _ _ _ h => h) (Or.inl ⟨by kernel_rfl, ?_⟩) (by assumption) ?_
  rotate_left
  · (intro w hSw; (try dsimp only at hSw); go_simp; (first | done | with_reducible rfl))
  (try simp only [Act.put, List.setIfInBounds_toArray, List.set_cons_zero, List.set_cons_succ])
  refine wpAnyH_ready (rs := [6]) (by kernel_rfl) (by simp) ?_
  refine AllReadyH.cons rfl (fun K hK => ?_) AllReadyH.nil
  go_simp
  refine (writeTop_any (HPD.out _) HFS.out (R.extract 0 1) (by simp; omega) (by omega)).mono ?_
  rintro e w4 ⟨rfl, col4, cs4, h4, st4⟩
  have st5 := st4.undrew
  have H4 := Lib.hid h4
  have ST4 := Lib.hid st5
  have z0 := h4.hp.cell 0
  clear h4 st4 st5
  go_wp2_with fail
  refine hK.out _ _ ?_ (fun hHeld2 => ?_)
  · (try dsimp only)
    first | exact C0.out | exact z0
  clear hK K hHeld1
  (try simp only [Act.put, List.setIfInBounds_toArray, List.set_cons_zero, List.set_cons_succ])
  refine wpAnyH_done (by kernel_rfl) ?_ _
  go_wp2
  go_ret
  refine ⟨rfl, col4, ob, cap, fv, cs4, gn, ?_, ST4.out⟩
  have e : (R.extract 0 1).data.toList = [s.data.toList.getD i 0] := RX.out
  have H5 := H4.out
  rw [e] at H5
  rw [writeLen, ← HL.out]
  exact H5.on (by omega)
set_option maxRecDepth 100000 in
set_option maxHeartbeats 2000000 in
theorem step_last (h : PSx Tryz.prog w B col pb ob cap len s st i fv gb cs gn) (hl : len = st.fs.length) (hI : Inv st i) (hi : i < s.size) (hs : s.size ≤ 100000) (m : Int) (hm : w.cell? ⟨0, 0, none⟩ = some (.int .i64 m)) (hB : 0 < B) (hc : s.data.toList.getD i 0 = 93) (hn : lastK 6 st.fs = 0) :
    Calls Tryz.prog 78 #[.pointer (some ⟨pb, 0, none⟩), .int .i64 (i : Int)] w fun e w' => e = .returned (.int .i64 ((i + 1 : Nat) : Int)) ∧ StepPost B pb s gb w col (st.write [s.data.toList.getD i 0]) (i + 1) w' := by
  have h17 := hI.2.2.2
  have h1 := hI.2.2.1
  have c0 := h.hp.cell 0
  obtain ⟨f, r, hfs⟩ : ∃ f r, st.fs = f :: r := by
    match hq : st.fs, hI.2.2.1 with
    | f :: r, _ => exact ⟨f, r, rfl⟩
    | [], hq2 => simp at hq2
  have hftx : f.row.tx.length ≤ 100000 := by
    have := hI.1
    rw [hfs, wtFs_cons] at this
    unfold wtF wtR at this
    omega
  have hflt : st.faults.length ≤ 10000000 := by have := hI.2.1; omega
  have HLR : Hid (len = r.length + 1) := by unfold Hid; rw [hl, hfs]; rfl
  have hr17 : r.length ≤ 17 := by have := HLR.out; omega
  have rz : (s.extract i s.size).size = s.size - i := by simp
  have rz1 : 0 < (s.extract i s.size).size := by omega
  have rz2 : (s.extract i s.size).size ≤ 100000 := by omega
  have G0 : Hid ((s.extract i s.size)[0]'rz1 = s.data.toList.getD i 0) := rest_get (s := s) (i := i) 0 rz1
  have RL := Lib.hid (rest_list s i)
  have q92 : ((((s.extract i s.size)[0]'rz1).toNat : Int) == 92) = false := by
    rw [G0.out]; exact neB (d := 92) rfl (by rw [hc]; decide)
  have q96 : ((((s.extract i s.size)[0]'rz1).toNat : Int) == 96) = false := by
    rw [G0.out]; exact neB (d := 96) rfl (by rw [hc]; decide)
  have q93 : ((((s.extract i s.size)[0]'rz1).toNat : Int) == 93) = true := by
    rw [G0.out]; exact isB (d := 93) rfl hc
  have q42 : ((((s.extract i s.size)[0]'rz1).toNat : Int) == 42) = false := by
    rw [G0.out]; exact neB (d := 42) rfl (by rw [hc]; decide)
  have q95 : ((((s.extract i s.size)[0]'rz1).toNat : Int) == 95) = false := by
    rw [G0.out]; exact neB (d := 95) rfl (by rw [hc]; decide)
  have p60 : ∀ w, Calls Tryz.prog 40 #[.string (s.extract i s.size), .string ⟨#[60, 60]⟩] w fun e w' => e = .returned (.bool false) ∧ w' = w := fun w => by
    have := Tryz.strings_HasPrefix (s.extract i s.size) ⟨#[60, 60]⟩ w
    rw [pre_hasPrefix, RL.out, show (ByteArray.mk #[60, 60]).data.toList = [60, 60] from rfl, pre_ne (by simpa using hi) (by rw [hc]; decide)] at this
    exact this
  have p40 : ∀ w, Calls Tryz.prog 40 #[.string (s.extract i s.size), .string ⟨#[40, 40]⟩] w fun e w' => e = .returned (.bool false) ∧ w' = w := fun w => by
    have := Tryz.strings_HasPrefix (s.extract i s.size) ⟨#[40, 40]⟩ w
    rw [pre_hasPrefix, RL.out, show (ByteArray.mk #[40, 40]).data.toList = [40, 40] from rfl, pre_ne (by simpa using hi) (by rw [hc]; decide)] at this
    exact this
  have p94 : ∀ w, Calls Tryz.prog 40 #[.string (s.extract i s.size), .string ⟨#[94, 91]⟩] w fun e w' => e = .returned (.bool false) ∧ w' = w := fun w => by
    have := Tryz.strings_HasPrefix (s.extract i s.size) ⟨#[94, 91]⟩ w
    rw [pre_hasPrefix, RL.out, show (ByteArray.mk #[94, 91]).data.toList = [94, 91] from rfl, pre_ne (by simpa using hi) (by rw [hc]; decide)] at this
    exact this
  have e1 : IntKind.i64.wrap ((i : Int) + 1) = ((i + 1 : Nat) : Int) := by rw [show (i : Int) + 1 = ((i + 1 : Nat) : Int) by omega]; exact IntWalk.i64_in _ (by omega)
  have RX : Hid (((s.extract i s.size).extract 0 1).data.toList = [s.data.toList.getD i 0]) := by
    unfold Hid
    rw [cut_list, rest_list, List.drop_drop]
    have hlt : i < s.data.toList.length := by simpa using hi
    rw [Nat.add_zero, List.drop_eq_getElem_cons hlt, List.getD_eq_getElem?_getD, List.getElem?_eq_getElem hlt]
    rfl
  have cl := last_any h hl (by omega) (by omega) 6
  rw [hn] at cl
  have C0 := Lib.hid c0
  have H := Lib.hid h
  have HPD := Lib.hid (fun k => PSx.drewN h k)
  have HFS := Lib.hid hfs
  have HL := Lib.hid hl
  have HI := Lib.hid hI
  have rz4 : (1 : Int) ≤ ((s.extract i s.size).size : Int) := by omega
  clear hc hn hm hI h1 h17 h hl hfs G0 RL
  obtain ⟨R, hR⟩ : ∃ R, s.extract i s.size = R := ⟨_, rfl⟩
  rw [hR] at rz
  have RZ := Lib.hid rz
  clear rz
  simp only [hR] at rz1 rz2 q92 q96 q93 q42 q95 p60 p40 p94 RX rz4
  go_enter Tryz.func78, Tryz.ntmps78
  go_wp2_with (first
    | (go_at_call 40; (with_reducible refine (p60 _).mono ?_); rintro e w' ⟨rfl, rfl⟩)
    | (go_at_call 40; (with_reducible refine (p40 _).mono ?_); rintro e w' ⟨rfl, rfl⟩)
    | (go_at_call 40; (with_reducible refine (p94 _).mono ?_); rintro e w' ⟨rfl, rfl⟩)
    | (go_at_call 105; refine cl.mono ?_; rintro e w' ⟨rfl, rfl⟩)
    | fail)
  refine wp_region_held_drew (S := (fun w' => w'.cell? ⟨pb, 0, none⟩ = some (.string s))) (by kernel_rfl) ?_ (fun hHeld0 => ?_)
  · (try dsimp only)
    first | exact C0.out | exact z0
  refine wpAnyH_take (i := 0) (v := ?_) rfl (by kernel_rfl) (by kernel_rfl) (by kernel_rfl) (fun _ _ _ h => h) (Or.inl ⟨by kernel_rfl, ?_⟩) (by assumption) ?_
  rotate_left
  · (intro w hSw; (try dsimp only at hSw); go_simp; (first | done | with_reducible rfl))
  (try simp only [Act.put, List.setIfInBounds_toArray, List.set_cons_zero, List.set_cons_succ])
  refine wpAnyH_take (i := 4) (v := ?_) rfl (by kernel_rfl) (by kernel_rfl) (by kernel_rfl) (fun _ _ _ h => h) (Or.inl ⟨by kernel_rfl, ?_⟩) (by assumption) ?_
  rotate_left
  · (intro w hSw; (try dsimp only at hSw); go_simp; (first | done | with_reducible rfl))
  (try simp only [Act.put, List.setIfInBounds_toArray, List.set_cons_zero, List.set_cons_succ])
  refine wpAnyH_take (i := 5) (v := ?_) rfl (by kernel_rfl) (by kernel_rfl) (by kernel_rfl) (fun _ _ _ h => h) (Or.inl ⟨by kernel_rfl, ?_⟩) (by assumption) ?_
  rotate_left
  · (intro w hSw; (try dsimp only at hSw); go_simp; (first | done | with_reducible rfl))
  (try simp only [Act.put, List.setIfInBounds_toArray, List.set_cons_zero, List.set_cons_succ])
  refine wpAnyH_ready (rs := [1]) (by kernel_rfl) (by simp) ?_
  refine AllReadyH.cons rfl (fun K hK => ?_) AllReadyH.nil
  go_simp
  refine (top_any (n := r.length) (by rw [← HLR.out]; exact HPD.out _) (by omega)).mono ?_
  rintro e w3 ⟨rfl, kk, rfl⟩
  go_wp2_with fail
  refine hK.out _ _ ?_ (fun hHeld1 => ?_)
  · (try dsimp only)
    first | exact C0.out | exact z0
  clear hK K hHeld0
  (try simp only [Act.put, List.setIfInBounds_toArray, List.set_cons_zero, List.set_cons_succ])
  refine wpAnyH_take (i := 2) (v := ?_) rfl (by kernel_rfl) (by kernel_rfl) (by kernel_rfl) (fun _ _ _ h => h) (Or.inl ⟨by kernel_rfl, ?_⟩) (by assumption) ?_
  rotate_left
  · (intro w hSw; (try dsimp only at hSw); go_simp; (first | done | with_reducible rfl))
  (try simp only [Act.put, List.setIfInBounds_toArray, List.set_cons_zero, List.set_cons_succ])
  refine wpAnyH_take (i := 3) (v := ?_) rfl (by kernel_rfl) (by kernel_rfl) (by kernel_rfl) (fun _ _ _ h => h) (Or.inl ⟨by kernel_rfl, ?_⟩) (by assumption) ?_
  rotate_left
  · (intro w hSw; (try dsimp only at hSw); go_simp; (first | done | with_reducible rfl))
  (try simp only [Act.put, List.setIfInBounds_toArray, List.set_cons_zero, List.set_cons_succ])
  refine wpAnyH_ready (rs := [6]) (by kernel_rfl) (by simp) ?_
  refine AllReadyH.cons rfl (fun K hK => ?_) AllReadyH.nil
  go_simp
  refine (writeTop_any (HPD.out _) HFS.out (R.extract 0 1) (by simp; omega) (by omega)).mono ?_
  rintro e w4 ⟨rfl, col4, cs4, h4, st4⟩
  have st5 := st4.undrew
  have H4 := Lib.hid h4
  have ST4 := Lib.hid st5
  have z0 := h4.hp.cell 0
  clear h4 st4 st5
  go_wp2_with fail
  refine hK.out _ _ ?_ (fun hHeld2 => ?_)
  · (try dsimp only)
    first | exact C0.out | exact z0
  clear hK K hHeld1
  (try simp only [Act.put, List.setIfInBounds_toArray, List.set_cons_zero, List.set_cons_succ])
  refine wpAnyH_done (by kernel_rfl) ?_ _
  go_wp2
  go_ret
  refine ⟨rfl, col4, ob, cap, fv, cs4, gn, ?_, ST4.out⟩
  have e : (R.extract 0 1).data.toList = [s.data.toList.getD i 0] := RX.out
  have H5 := H4.out
  rw [e] at H5
  rw [writeLen, ← HL.out]
  exact H5.on (by omega)
set_option maxRecDepth 100000 in
set_option maxHeartbeats 2000000 in
theorem step_text (h : PSx Tryz.prog w B col pb ob cap len s st i fv gb cs gn) (hl : len = st.fs.length) (hI : Inv st i) (hi : i < s.size) (hs : s.size ≤ 100000) (m : Int) (hm : w.cell? ⟨0, 0, none⟩ = some (.int .i64 m)) (hB : 0 < B) (n92 : s.data.toList.getD i 0 ≠ 92) (n96 : s.data.toList.getD i 0 ≠ 96) (n93 : s.data.toList.getD i 0 ≠ 93) (n42 : s.data.toList.getD i 0 ≠ 42) (n95 : s.data.toList.getD i 0 ≠ 95) (m60 : [60, 60].isPrefixOf (s.data.toList.drop i) = false) (m40 : [40, 40].isPrefixOf (s.data.toList.drop i) = false) (m94 : [94, 91].isPrefixOf (s.data.toList.drop i) = false) :
    Calls Tryz.prog 78 #[.pointer (some ⟨pb, 0, none⟩), .int .i64 (i : Int)] w fun e w' => e = .returned (.int .i64 ((i + 1 : Nat) : Int)) ∧ StepPost B pb s gb w col (st.write [s.data.toList.getD i 0]) (i + 1) w' := by
  have h17 := hI.2.2.2
  have h1 := hI.2.2.1
  have c0 := h.hp.cell 0
  obtain ⟨f, r, hfs⟩ : ∃ f r, st.fs = f :: r := by
    match hq : st.fs, hI.2.2.1 with
    | f :: r, _ => exact ⟨f, r, rfl⟩
    | [], hq2 => simp at hq2
  have hftx : f.row.tx.length ≤ 100000 := by
    have := hI.1
    rw [hfs, wtFs_cons] at this
    unfold wtF wtR at this
    omega
  have hflt : st.faults.length ≤ 10000000 := by have := hI.2.1; omega
  have HLR : Hid (len = r.length + 1) := by unfold Hid; rw [hl, hfs]; rfl
  have hr17 : r.length ≤ 17 := by have := HLR.out; omega
  have rz : (s.extract i s.size).size = s.size - i := by simp
  have rz1 : 0 < (s.extract i s.size).size := by omega
  have rz2 : (s.extract i s.size).size ≤ 100000 := by omega
  have G0 : Hid ((s.extract i s.size)[0]'rz1 = s.data.toList.getD i 0) := rest_get (s := s) (i := i) 0 rz1
  have RL := Lib.hid (rest_list s i)
  have q92 : ((((s.extract i s.size)[0]'rz1).toNat : Int) == 92) = false := by
    rw [G0.out]; exact neB (d := 92) rfl n92
  have q96 : ((((s.extract i s.size)[0]'rz1).toNat : Int) == 96) = false := by
    rw [G0.out]; exact neB (d := 96) rfl n96
  have q93 : ((((s.extract i s.size)[0]'rz1).toNat : Int) == 93) = false := by
    rw [G0.out]; exact neB (d := 93) rfl n93
  have q42 : ((((s.extract i s.size)[0]'rz1).toNat : Int) == 42) = false := by
    rw [G0.out]; exact neB (d := 42) rfl n42
  have q95 : ((((s.extract i s.size)[0]'rz1).toNat : Int) == 95) = false := by
    rw [G0.out]; exact neB (d := 95) rfl n95
  have p60 : ∀ w, Calls Tryz.prog 40 #[.string (s.extract i s.size), .string ⟨#[60, 60]⟩] w fun e w' => e = .returned (.bool false) ∧ w' = w := fun w => by
    have := Tryz.strings_HasPrefix (s.extract i s.size) ⟨#[60, 60]⟩ w
    rw [pre_hasPrefix, RL.out, show (ByteArray.mk #[60, 60]).data.toList = [60, 60] from rfl, m60] at this
    exact this
  have p40 : ∀ w, Calls Tryz.prog 40 #[.string (s.extract i s.size), .string ⟨#[40, 40]⟩] w fun e w' => e = .returned (.bool false) ∧ w' = w := fun w => by
    have := Tryz.strings_HasPrefix (s.extract i s.size) ⟨#[40, 40]⟩ w
    rw [pre_hasPrefix, RL.out, show (ByteArray.mk #[40, 40]).data.toList = [40, 40] from rfl, m40] at this
    exact this
  have p94 : ∀ w, Calls Tryz.prog 40 #[.string (s.extract i s.size), .string ⟨#[94, 91]⟩] w fun e w' => e = .returned (.bool false) ∧ w' = w := fun w => by
    have := Tryz.strings_HasPrefix (s.extract i s.size) ⟨#[94, 91]⟩ w
    rw [pre_hasPrefix, RL.out, show (ByteArray.mk #[94, 91]).data.toList = [94, 91] from rfl, m94] at this
    exact this
  have e1 : IntKind.i64.wrap ((i : Int) + 1) = ((i + 1 : Nat) : Int) := by rw [show (i : Int) + 1 = ((i + 1 : Nat) : Int) by omega]; exact IntWalk.i64_in _ (by omega)
  have RX : Hid (((s.extract i s.size).extract 0 1).data.toList = [s.data.toList.getD i 0]) := by
    unfold Hid
    rw [cut_list, rest_list, List.drop_drop]
    have hlt : i < s.data.toList.length := by simpa using hi
    rw [Nat.add_zero, List.drop_eq_getElem_cons hlt, List.getD_eq_getElem?_getD, List.getElem?_eq_getElem hlt]
    rfl
  have C0 := Lib.hid c0
  have H := Lib.hid h
  have HPD := Lib.hid (fun k => PSx.drewN h k)
  have HFS := Lib.hid hfs
  have HL := Lib.hid hl
  have HI := Lib.hid hI
  have rz4 : (1 : Int) ≤ ((s.extract i s.size).size : Int) := by omega
  clear n92 n96 n93 n42 n95 m60 m40 m94 hm hI h1 h17 h hl hfs G0 RL
  obtain ⟨R, hR⟩ : ∃ R, s.extract i s.size = R := ⟨_, rfl⟩
  rw [hR] at rz
  have RZ := Lib.hid rz
  clear rz
  simp only [hR] at rz1 rz2 q92 q96 q93 q42 q95 p60 p40 p94 RX rz4
  go_enter Tryz.func78, Tryz.ntmps78
  go_wp2_with (first
    | (go_at_call 40; (with_reducible refine (p60 _).mono ?_); rintro e w' ⟨rfl, rfl⟩)
    | (go_at_call 40; (with_reducible refine (p40 _).mono ?_); rintro e w' ⟨rfl, rfl⟩)
    | (go_at_call 40; (with_reducible refine (p94 _).mono ?_); rintro e w' ⟨rfl, rfl⟩)
    | fail)
  refine wp_region_held_drew (S := (fun w' => w'.cell? ⟨pb, 0, none⟩ = some (.string s))) (by kernel_rfl) ?_ (fun hHeld0 => ?_)
  · (try dsimp only)
    first | exact C0.out | exact z0
  refine wpAnyH_take (i := 0) (v := ?_) rfl (by kernel_rfl) (by kernel_rfl) (by kernel_rfl) (fun _ _ _ h => h) (Or.inl ⟨by kernel_rfl, ?_⟩) (by assumption) ?_
  rotate_left
  · (intro w hSw; (try dsimp only at hSw); go_simp; (first | done | with_reducible rfl))
  (try simp only [Act.put, List.setIfInBounds_toArray, List.set_cons_zero, List.set_cons_succ])
  refine wpAnyH_take (i := 4) (v := ?_) rfl (by kernel_rfl) (by kernel_rfl) (by kernel_rfl) (fun _ _ _ h => h) (Or.inl ⟨by kernel_rfl, ?_⟩) (by assumption) ?_
  rotate_left
  · (intro w hSw; (try dsimp only at hSw); go_simp; (first | done | with_reducible rfl))
  (try simp only [Act.put, List.setIfInBounds_toArray, List.set_cons_zero, List.set_cons_succ])
  refine wpAnyH_take (i := 5) (v := ?_) rfl (by kernel_rfl) (by kernel_rfl) (by kernel_rfl) (fun _ _ _ h => h) (Or.inl ⟨by kernel_rfl, ?_⟩) (by assumption) ?_
  rotate_left
  · (intro w hSw; (try dsimp only at hSw); go_simp; (first | done | with_reducible rfl))
  (try simp only [Act.put, List.setIfInBounds_toArray, List.set_cons_zero, List.set_cons_succ])
  refine wpAnyH_ready (rs := [1]) (by kernel_rfl) (by simp) ?_
  refine AllReadyH.cons rfl (fun K hK => ?_) AllReadyH.nil
  go_simp
  refine (top_any (n := r.length) (by rw [← HLR.out]; exact HPD.out _) (by omega)).mono ?_
  rintro e w3 ⟨rfl, kk, rfl⟩
  go_wp2_with fail
  refine hK.out _ _ ?_ (fun hHeld1 => ?_)
  · (try dsimp only)
    first | exact C0.out | exact z0
  clear hK K hHeld0
  (try simp only [Act.put, List.setIfInBounds_toArray, List.set_cons_zero, List.set_cons_succ])
  refine wpAnyH_take (i := 2) (v := ?_) rfl (by kernel_rfl) (by kernel_rfl) (by kernel_rfl) (fun _ _ _ h => h) (Or.inl ⟨by kernel_rfl, ?_⟩) (by assumption) ?_
  rotate_left
  · (intro w hSw; (try dsimp only at hSw); go_simp; (first | done | with_reducible rfl))
  (try simp only [Act.put, List.setIfInBounds_toArray, List.set_cons_zero, List.set_cons_succ])
  refine wpAnyH_take (i := 3) (v := ?_) rfl (by kernel_rfl) (by kernel_rfl) (by kernel_rfl) (fun _ _ _ h => h) (Or.inl ⟨by kernel_rfl, ?_⟩) (by assumption) ?_
  rotate_left
  · (intro w hSw; (try dsimp only at hSw); go_simp; (first | done | with_reducible rfl))
  (try simp only [Act.put, List.setIfInBounds_toArray, List.set_cons_zero, List.set_cons_succ])
  refine wpAnyH_ready (rs := [6]) (by kernel_rfl) (by simp) ?_
  refine AllReadyH.cons rfl (fun K hK => ?_) AllReadyH.nil
  go_simp
  refine (writeTop_any (HPD.out _) HFS.out (R.extract 0 1) (by simp; omega) (by omega)).mono ?_
  rintro e w4 ⟨rfl, col4, cs4, h4, st4⟩
  have st5 := st4.undrew
  have H4 := Lib.hid h4
  have ST4 := Lib.hid st5
  have z0 := h4.hp.cell 0
  clear h4 st4 st5
  go_wp2_with fail
  refine hK.out _ _ ?_ (fun hHeld2 => ?_)
  · (try dsimp only)
    first | exact C0.out | exact z0
  clear hK K hHeld1
  (try simp only [Act.put, List.setIfInBounds_toArray, List.set_cons_zero, List.set_cons_succ])
  refine wpAnyH_done (by kernel_rfl) ?_ _
  go_wp2
  go_ret
  refine ⟨rfl, col4, ob, cap, fv, cs4, gn, ?_, ST4.out⟩
  have e : (R.extract 0 1).data.toList = [s.data.toList.getD i 0] := RX.out
  have H5 := H4.out
  rw [e] at H5
  rw [writeLen, ← HL.out]
  exact H5.on (by omega)
theorem step_any (h : PSx Tryz.prog w B col pb ob cap len s st i fv gb cs gn) (hl : len = st.fs.length) (hI : Inv st i) (hi : i < s.size) (hs : s.size ≤ 100000) (m : Int) (hm : w.cell? ⟨0, 0, none⟩ = some (.int .i64 m)) (hB : 0 < B) :
    Calls Tryz.prog 78 #[.pointer (some ⟨pb, 0, none⟩), .int .i64 (i : Int)] w fun e w' => e = .returned (.int .i64 (((st.step s.data.toList i).2 : Nat) : Int)) ∧ StepPost B pb s gb w col (st.step s.data.toList i).1 (st.step s.data.toList i).2 w' := by
  have hlen : s.data.toList.length = s.size := by simp
  have hil : i < s.data.toList.length := by omega
  have head : ∀ {a b : UInt8}, [a, b].isPrefixOf (s.data.toList.drop i) = true → s.data.toList.getD i 0 = a := fun {a b} hp => by
    rw [drop_cons hil, List.isPrefixOf] at hp
    simp only [Bool.and_eq_true, beq_iff_eq] at hp
    exact hp.1.symm
  unfold Pst.step
  rw [hlen]
  split
  · rename_i hc
    exact step_esc h hl hI hi hs m hm hB hc.1 hc.2.1 hc.2.2
  rename_i k92
  split
  · rename_i hc; exact step_code h hl hI hi hs m hm hB hc
  rename_i k96
  split
  · rename_i hp; exact step_ref h hl hI hi hs m hm hB (head hp) hp
  rename_i k60
  split
  · rename_i hp; exact step_term h hl hI hi hs m hm hB (head hp) hp
  rename_i k40
  split
  · rename_i hp
    cases hr : st.room with
    | true => exact step_note h hl hI hi hs m hm hB (head hp) hp hr
    | false => exact step_full h hl hI hi hs m hm hB (head hp) hp hr
  rename_i k94
  split
  · rename_i hc; exact step_shut h hl hI hi hs m hm hB hc.1 hc.2
  rename_i k93
  split
  · rename_i hc; exact step_starW h hl hI hi hs m hm hB hc
  rename_i k42
  split
  · rename_i hc; exact step_barW h hl hI hi hs m hm hB hc
  rename_i k95
  simp only [Bool.not_eq_true] at k60 k40 k94
  by_cases e92 : s.data.toList.getD i 0 = 92
  · by_cases en : i + 1 < s.size
    · exact step_back h hl hI hi hs m hm hB e92 en (by
        cases he : escB (s.data.toList.getD (i + 1) 0) with
        | false => rfl
        | true => exact absurd ⟨e92, en, he⟩ k92)
    · exact step_short h hl hI hi hs m hm hB e92 en
  · by_cases e93 : s.data.toList.getD i 0 = 93
    · exact step_last h hl hI hi hs m hm hB e93 (by
        by_cases e0 : 0 < lastK 6 st.fs
        · exact absurd ⟨e93, e0⟩ k93
        · omega)
    · exact step_text h hl hI hi hs m hm hB e92 k96 e93 k42 k95 k60 k40 k94
end
end Go.Proofs.YtcjmfjccjhdgjaaGreatDoor
namespace Go.Bd
def keys (st : Pst) : List Nat := st.faults.map (·.1) ++ st.fs.dropLast.map (·.at')
structure Dst (st : Pst) (i : Nat) : Prop where
  nd : (keys st).Nodup
  lt : ∀ k ∈ keys st, k < i
theorem keys_top (st : Pst) (g : Rw → Rw) : keys (st.top g) = keys st := by
  obtain ⟨fs, fa⟩ := st
  cases fs with
  | nil => rfl
  | cons f r => cases r <;> rfl
theorem Dst.first : Dst Pst.first 0 := ⟨by simp [keys, Pst.first], by simp [keys, Pst.first]⟩
theorem Dst.top {st : Pst} {i j : Nat} (h : Dst st i) (hj : i ≤ j) (g : Rw → Rw) : Dst (st.top g) j :=
  ⟨by rw [keys_top]; exact h.nd, fun k hk => by rw [keys_top] at hk; have := h.lt k hk; omega⟩
theorem Dst.write {st : Pst} {i j : Nat} (h : Dst st i) (hj : i ≤ j) (s : Bs) : Dst (st.write s) j := h.top hj _
theorem Dst.of_perm {a b : Pst} {i j : Nat} (h : Dst a i) (hj : i ≤ j) (hp : List.Perm (keys a) (keys b)) : Dst b j :=
  ⟨hp.nodup_iff.1 h.nd, fun k hk => by have := h.lt k (hp.mem_iff.2 hk); omega⟩
theorem Dst.of_new {a b : Pst} {i j : Nat} (h : Dst a i) (hj : i < j) (hp : List.Perm (keys b) (i :: keys a)) : Dst b j :=
  ⟨hp.nodup_iff.2 (List.nodup_cons.2 ⟨fun hm => by have := h.lt i hm; omega, h.nd⟩), fun k hk => by
    rcases List.mem_cons.1 (hp.mem_iff.1 hk) with rfl | hk
    · exact hj
    · have := h.lt k hk; omega⟩
theorem keys_tell (st : Pst) (a f : Nat) : List.Perm (keys (st.tell a f)) (a :: keys st) := by
  simp only [keys, Pst.tell, List.map_append, List.map_cons, List.map_nil, List.append_assoc, List.cons_append, List.nil_append]
  exact List.perm_middle
theorem Dst.tell {st : Pst} {i j : Nat} (h : Dst st i) (hj : i < j) (f : Nat) : Dst (st.tell i f) j := h.of_new hj (keys_tell st i f)
theorem keys_drop1 {st : Pst} (h2 : 2 ≤ st.fs.length) : List.Perm (keys st) (keys st.drop1) := by
  obtain ⟨fs, fa⟩ := st
  match fs, h2 with
  | f :: g :: r, _ =>
    have e : ((onTop (spill f) (g :: r)).dropLast).map (·.at') = ((g :: r).dropLast).map (·.at') := by cases r <;> rfl
    simp only [keys, Pst.drop1, e, List.map_append, List.map_cons, List.map_nil, List.append_assoc, List.cons_append, List.nil_append, List.dropLast_cons_cons]
    exact List.Perm.refl _
theorem keys_dropN : ∀ (n : Nat) {st : Pst}, n + 1 ≤ st.fs.length → List.Perm (keys st) (keys (st.dropN n))
  | 0, _, _ => List.Perm.refl _
  | n + 1, st, h => by
    have h1 := drop1_length (st := st) (by omega)
    exact (keys_drop1 (by omega)).trans (keys_dropN n (by omega))
theorem keys_drop {st : Pst} (n : Nat) (h : 1 ≤ st.fs.length) : List.Perm (keys st) (keys (st.drop n)) := keys_dropN _ (by omega)
theorem keys_shut (st : Pst) (h2 : 2 ≤ st.fs.length) : ∃ k, List.Perm (keys st) (k :: keys st.shut) := by
  obtain ⟨fs, fa⟩ := st
  match fs, h2 with
  | f :: g :: r, _ =>
    have e : ∀ q, ((onTop q (g :: r)).dropLast).map (·.at') = ((g :: r).dropLast).map (·.at') := fun q => by cases r <;> rfl
    refine ⟨f.at', ?_⟩
    simp only [keys, Pst.shut, e, List.map_cons, List.dropLast_cons_cons]
    exact List.perm_middle
theorem Dst.fin {st : Pst} {i j n : Nat} (h : Dst st i) (hI : Inv st i) (hj : i ≤ j) (h0 : 0 < n) (hn : n < st.fs.length) : Dst (st.fin n) j := by
  have h1 := h.of_perm (Nat.le_refl _) (keys_drop n (by omega))
  obtain ⟨k, hk⟩ := keys_shut (st.drop n) (by have := (hI.drop hn).2; omega)
  unfold Pst.fin
  have hnd := hk.nodup_iff.1 h1.nd
  refine ⟨(List.nodup_cons.1 hnd).2, fun q hq => ?_⟩
  have := h1.lt q (hk.mem_iff.2 (List.mem_cons_of_mem _ hq))
  omega
theorem Dst.begin {st : Pst} {i j : Nat} (h : Dst st i) (h1 : 1 ≤ st.fs.length) (hj : i < j) (k : Nat) (sign : Bs) : Dst (st.begin k i sign) j := by
  refine h.of_new hj ?_
  obtain ⟨fs, fa⟩ := st
  match fs, h1 with
  | f :: r, _ =>
    simp only [keys, Pst.begin, List.dropLast_cons_cons, List.map_cons]
    exact List.perm_middle
theorem Dst.between {st : Pst} {s a b : Bs} {i : Nat} {asf : Bs → Sp ⊕ Nat} (h : Dst st i) (ha : 1 ≤ a.length) (hi : i + a.length ≤ s.length) : Dst (st.between s i a b asf).1 (st.between s i a b asf).2 := by
  unfold Pst.between
  split
  · exact (h.write (Nat.le_refl i) a).tell (by simp only; omega) _
  · rename_i n hn
    obtain ⟨h1, h2⟩ := nextAt_some hi hn
    split
    · exact (h.write (Nat.le_refl i) _).tell (by simp only; omega) _
    · exact h.top (by simp only; omega) _
theorem Dst.mark {st : Pst} {s : Bs} {i k : Nat} (h : Dst st i) (hI : Inv st i) : Dst (st.mark s i k) (i + 1) := by
  unfold Pst.mark
  split
  · rename_i hc
    rcases lastK_lt k st.fs with h0 | h0
    · omega
    · exact h.fin hI (by omega) hc.1 h0
  · split
    · exact h.write (by omega) _
    · split
      · exact (h.write (Nat.le_refl i) _).tell (by omega) _
      · exact h.begin hI.2.2.1 (by omega) _ _
theorem Dst.step {st : Pst} {s : Bs} {i : Nat} (h : Dst st i) (hI : Inv st i) (hi : i < s.length) : Dst (st.step s i).1 (st.step s i).2 := by
  unfold Pst.step
  split
  · exact h.write (by simp only; omega) _
  split
  · exact h.between (by simp) (by simp; omega)
  split
  · rename_i hp
    exact h.between (by simp) (prefix_two hp)
  split
  · rename_i hp
    exact h.between (by simp) (prefix_two hp)
  split
  · simp only
    split
    · exact h.begin hI.2.2.1 (by omega) _ _
    · exact (h.write (Nat.le_refl i) _).tell (by omega) _
  split
  · rename_i hc
    rcases lastK_lt 6 st.fs with h0 | h0
    · omega
    · exact h.fin hI (by simp only; omega) hc.2 h0
  split
  · exact h.mark hI
  split
  · exact h.mark hI
  · exact h.write (by simp only; omega) _
theorem Dst.run {s : Bs} : ∀ (n i : Nat) (st : Pst), Inv st i → Dst st i → ∃ j, Dst (runP s n i st) j
  | 0, i, st, _, h => ⟨i, h⟩
  | n + 1, i, st, hI, h => by
    rw [runP]
    split
    · rename_i hlt
      obtain ⟨h3, h4, h5⟩ := hI.step hlt
      exact Dst.run n _ _ h3 (h.step hI hlt)
    · exact ⟨i, h⟩
theorem faults_nodup (s : Bs) : ((faultsAt s).map (·.1)).Nodup := by
  obtain ⟨j, hj⟩ := Dst.run (s := s) s.length 0 Pst.first Inv.first Dst.first
  have hI := Inv.run (s := s) s.length 0 Pst.first Inv.first (Nat.zero_le _) (by omega)
  have h := hj.of_perm (Nat.le_refl _) (keys_drop 0 hI.2.2.1)
  exact (List.nodup_append.1 h.nd).1
def insF (p : Nat × Nat) : List (Nat × Nat) → List (Nat × Nat)
  | [] => [p]
  | q :: l => if p.1 ≤ q.1 then p :: q :: l else q :: insF p l
def sortF : List (Nat × Nat) → List (Nat × Nat)
  | [] => []
  | p :: l => insF p (sortF l)
theorem insF_perm (p : Nat × Nat) : ∀ l, List.Perm (insF p l) (p :: l)
  | [] => List.Perm.refl _
  | q :: l => by
    unfold insF
    split
    · exact List.Perm.refl _
    · exact ((insF_perm p l).cons q).trans (List.Perm.swap _ _ _)
theorem sortF_perm : ∀ l, List.Perm (sortF l) l
  | [] => List.Perm.refl _
  | p :: l => (insF_perm p _).trans ((sortF_perm l).cons p)
theorem insF_sorted (p : Nat × Nat) : ∀ l : List (Nat × Nat), l.Pairwise (fun a b => a.1 ≤ b.1) → (insF p l).Pairwise (fun a b => a.1 ≤ b.1)
  | [], _ => by simp [insF]
  | q :: l, h => by
    unfold insF
    obtain ⟨h1, h2⟩ := List.pairwise_cons.1 h
    split
    · rename_i hc
      refine List.pairwise_cons.2 ⟨fun x hx => ?_, h⟩
      rcases List.mem_cons.1 hx with rfl | hx
      · exact hc
      · have := h1 x hx; omega
    · rename_i hc
      refine List.pairwise_cons.2 ⟨fun x hx => ?_, insF_sorted p l h2⟩
      rcases List.mem_cons.1 ((insF_perm p l).mem_iff.1 hx) with rfl | hx
      · omega
      · exact h1 x hx
theorem sortF_sorted : ∀ l : List (Nat × Nat), (sortF l).Pairwise (fun a b => a.1 ≤ b.1)
  | [] => List.Pairwise.nil
  | p :: l => insF_sorted p _ (sortF_sorted l)
theorem inj_keys : ∀ {b : List (Nat × Nat)}, (b.map (·.1)).Nodup → ∀ {x y}, x ∈ b → y ∈ b → x.1 = y.1 → x = y
  | [], _, _, _, hx, _, _ => by cases hx
  | p :: b, hn, x, y, hx, hy, e => by
    obtain ⟨h1, h2⟩ := List.nodup_cons.1 hn
    rcases List.mem_cons.1 hx with rfl | hx' <;> rcases List.mem_cons.1 hy with rfl | hy'
    · rfl
    · exact (h1 (List.mem_map.2 ⟨y, hy', e.symm⟩)).elim
    · exact (h1 (List.mem_map.2 ⟨x, hx', e⟩)).elim
    · exact inj_keys h2 hx' hy' e
theorem sort_unique {a b : List (Nat × Nat)} (hp : List.Perm a b) (hn : (b.map (·.1)).Nodup) (ha : a.Pairwise (fun x y => x.1 ≤ y.1)) (hb : b.Pairwise (fun x y => x.1 ≤ y.1)) : a = b := by
  refine hp.eq_of_pairwise (le := fun x y : Nat × Nat => x.1 ≤ y.1) (fun x y hx hy h1 h2 => ?_) ha hb
  have e : x.1 = y.1 := by omega
  have hx' : x ∈ b := hp.mem_iff.1 hx
  exact inj_keys hn hx' hy e
def faultsOf (s : Bs) : List Nat := (sortF (faultsAt s)).map (·.2)
end Go.Bd
namespace Go.Bd
open Go.RowKit Go.Sort
def encT (p : Nat × Nat) : List Value := [.int .i64 (p.1 : Int), .int .i64 (p.2 : Int)]
def cfT (x y : Nat × Nat) : Int := Lib.compareInt (x.1 : Int) (y.1 : Int)
theorem ltT (x y : Nat × Nat) : Go.Proofs.ltOf cfT x y = decide (x.1 < y.1) := by
  unfold Go.Proofs.ltOf cfT Lib.compareInt
  by_cases h1 : x.1 < y.1
  · simp [h1]
  · by_cases h2 : y.1 < x.1 <;> simp [h1, h2]
theorem swoT : SWO (Go.Proofs.ltOf cfT) where
  irrefl x := by rw [ltT]; simp
  trans x y z h1 h2 := by rw [ltT] at *; simp at *; omega
  ntrans x y z h1 h2 := by rw [ltT] at *; simp at *; omega
theorem toldCells_length (l : List (Nat × Nat)) : (toldCells l).length = l.length * 2 := by
  induction l with
  | nil => rfl
  | cons p l ih => rw [show toldCells (p :: l) = [.int .i64 (p.1 : Int), .int .i64 (p.2 : Int)] ++ toldCells l from rfl, List.length_append, ih]; simp; omega
theorem toldCells_get : ∀ (l : List (Nat × Nat)) (j : Nat), j < l.length * 2 → (toldCells l)[j]? = (encT l[j / 2]!)[j % 2]?
  | [], j, h => by simp at h
  | p :: l, j, h => by
    have e : toldCells (p :: l) = [.int .i64 (p.1 : Int), .int .i64 (p.2 : Int)] ++ toldCells l := rfl
    rw [e]
    by_cases h2 : j < 2
    · rw [List.getElem?_append_left (by simpa using h2)]
      obtain rfl | rfl : j = 0 ∨ j = 1 := by omega
      · rfl
      · rfl
    · rw [List.getElem?_append_right (by simp; omega)]
      have e1 : j / 2 = (j - 2) / 2 + 1 := by omega
      have e2 : j % 2 = (j - 2) % 2 := by omega
      rw [show ([.int .i64 (p.1 : Int), .int .i64 (p.2 : Int)] : List Value).length = 2 from rfl, toldCells_get l (j - 2) (by simp at h; omega), e1, e2]
      rfl
theorem encT_get (p : Nat × Nat) (j : Nat) (h : j < 2) : (encT p)[j]? = some (encT p)[j]! := by
  obtain rfl | rfl : j = 0 ∨ j = 1 := by omega
  · rfl
  · rfl
section
variable {w w' : World} {B g n cap : Nat} {cur : Array Value} {l : List (Nat × Nat)}
theorem told_holdsK (hh : w.heap[g]? = some (.cells cur tT (0, 0))) (ht : cur.toList.take (l.length * 2) = toldCells l) (hs : l.length * 2 ≤ cur.size) : HoldsK encT 2 w g 0 l.toArray := by
  intro j hj
  rw [size_flatK] at hj
  have hj2 : j < l.length * 2 := by simpa using hj
  rw [get_flatK _ _ _ _ hj, Nat.zero_add]
  have h1 : cur[j]? = some (encT l.toArray[j / 2]!)[j % 2]! := by
    rw [← encT_get _ _ (by omega), show l.toArray[j / 2]! = l[j / 2]! by simp, ← toldCells_get l j hj2, ← ht, List.getElem?_take_of_lt hj2, Array.getElem?_toList]
  exact ⟨(Holds.cell hh j).trans h1, Holds.free hh j⟩
theorem sortWorld_told (hh : w.heap[g]? = some (.cells cur tT (0, 0))) (hs : l.length * 2 ≤ cur.size) (m : Nat) (d' : List (Nat × Nat)) (hd : d'.length = l.length) (os : Array Obj) :
    Chg w (Go.Proofs.sortWorldK encT 2 w g 0 m d'.toArray os) (· = g) ∧ ∃ cur', (Go.Proofs.sortWorldK encT 2 w g 0 m d'.toArray os).heap[g]? = some (.cells cur' tT (0, 0)) ∧ cur'.size = cur.size ∧ cur'.toList.take (l.length * 2) = toldCells d' := by
  have hlt : g < w.heap.size := (Array.getElem?_eq_some_iff.1 hh).1
  have hsz : (w.heap.modify g (onCells (putCells id 0 (flatK encT 2 d'.toArray)))).size = w.heap.size := Array.size_modify
  refine ⟨⟨rfl, rfl, rfl, ?_, fun k hk hg => ?_⟩, putCells id 0 (flatK encT 2 d'.toArray) cur, ?_, by simp [putCells], ?_⟩
  · show w.heap.size ≤ (w.heap.modify g _ ++ os).size
    rw [Array.size_append, Array.size_modify]; omega
  · show (w.heap.modify g _ ++ os)[k]? = _
    rw [Array.getElem?_append_left (by rw [Array.size_modify]; exact hk), Array.getElem?_modify, if_neg (fun e => hg e.symm)]
  · show (w.heap.modify g _ ++ os)[g]? = _
    rw [Array.getElem?_append_left (by rw [Array.size_modify]; exact hlt), Array.getElem?_modify, if_pos rfl, hh]
    rfl
  · apply List.ext_getElem?
    intro j
    by_cases hj : j < l.length * 2
    · rw [List.getElem?_take_of_lt hj, Array.getElem?_toList, toldCells_get d' j (by omega)]
      have hjc : j < cur.size := by omega
      have hjf : j < (flatK encT 2 d'.toArray).size := by rw [size_flatK]; simp; omega
      simp only [putCells, Array.getElem?_mapIdx, Array.getElem?_eq_getElem hjc, Option.map_some, Nat.zero_le, Nat.zero_add, true_and, if_pos hjf, Nat.sub_zero, id]
      rw [get_flatK _ _ _ _ (by simp; omega), encT_get _ _ (by omega)]
      simp
    · rw [List.getElem?_take_eq_none (by omega), List.getElem?_eq_none (by rw [toldCells_length]; omega)]
end
theorem perm_told {l d : List (Nat × Nat)} (hn : (l.map (·.1)).Nodup) (hp : PermIn 0 l.toArray.size l.toArray d.toArray) (hs : SortedIn (Go.Proofs.ltOf cfT) 0 l.toArray.size d.toArray) : d = sortF l := by
  obtain ⟨h1, _, h3⟩ := hp
  have hlen : d.length = l.length := by simpa using h1
  have e1 : (d.toArray.extract 0 l.toArray.size).toList = d := by simp [← hlen]
  have e2 : (l.toArray.extract 0 l.toArray.size).toList = l := by simp
  rw [e1, e2] at h3
  refine sort_unique (h3.trans (sortF_perm l).symm) ?_ ?_ (sortF_sorted l)
  · exact ((sortF_perm l).map (·.1)).nodup_iff.2 hn
  · rw [List.pairwise_iff_getElem]
    intro i j hi hj hij
    have := hs i j (Nat.zero_le _) hij (by simp; omega)
    rw [ltT, decide_eq_false_iff_not] at this
    simp only [List.getElem!_toArray, getElem!_pos d j hj, getElem!_pos d i hi] at this
    omega
end Go.Bd
namespace Go.Proofs.YtcjmfjccjhdgjaaGreatDoor
open Go.RowKit Go.Bd Go.Sort
theorem cmpT (x y : Nat × Nat) (W : World) : Calls Tryz.prog 83 #[.agg #[.int .i64 (x.1 : Int), .int .i64 (x.2 : Int)], .agg #[.int .i64 (y.1 : Int), .int .i64 (y.2 : Int)]] W fun e w' => e = .returned (.int .i64 (cfT x y)) ∧ ∃ q os', w' = grow (W.drewN q) os' := by
  have hcon := fun W' => Tryz.cmp_Compare_int (x.1 : Int) (y.1 : Int) W'
  unfold cfT
  generalize Lib.compareInt (x.1 : Int) (y.1 : Int) = r at hcon ⊢
  go_enter Tryz.func83, Tryz.ntmps83
  go_wp2_with (go_at_call 84; refine (hcon _).mono ?_; rintro e w' ⟨rfl, rfl⟩)
  go_ret
  exact ⟨rfl, 0, _, by rw [alloc_eq_grow, alloc_eq_grow, grow_grow]; rfl⟩
set_option maxRecDepth 100000 in
theorem insert_none (fv : Value) (w : World) : Calls Tryz.prog 121 #[.slice none 0 0, .int .i64 0, .int .i64 0, fv] w fun e w' => e = .returned (.tuple #[]) ∧ w = w' := by
  go_enter Tryz.func121, Tryz.ntmps121
  go_wp2
  go_loop [8] (fun i => i = .int .i64 1) (fun _ => 0)
  case atStart => rfl
  case round =>
    obtain rfl := hrel
    go_wp2
    go_end0
    exact ⟨rfl, rfl⟩
set_option maxRecDepth 100000 in
theorem pdq_none (fv : Value) (x : Int) (w : World) : Calls Tryz.prog 109 #[.slice none 0 0, .int .i64 0, .int .i64 0, .int .i64 x, fv] w fun e w' => e = .returned (.tuple #[]) ∧ w = w' := by
  go_enter Tryz.func109, Tryz.ntmps109
  go_wp2
  go_loop [1, 2] (fun a b => a = .int .i64 0 ∧ b = .int .i64 0) (fun _ _ => 0)
  case atStart => exact ⟨rfl, rfl⟩
  case round =>
    obtain ⟨rfl, rfl⟩ := hrel
    go_wp2_with (go_at_call 121; refine (insert_none _ _).mono ?_; rintro e w' ⟨rfl, rfl⟩)
    (try simp only [Exit.inBlock, Exit.then])
    refine bodyPost_ret (results_none rfl _ _ _) rfl ?_
    exact ⟨rfl, rfl⟩
theorem sort_none (fv : Value) (w : World) : Calls Tryz.prog 82 #[.slice none 0 0, fv] w fun e w' => e = .returned (.tuple #[]) ∧ w = w' := by
  have cl := fun w => Tryz.bits_Len 0 w (by omega) (by omega)
  go_enter Tryz.func82, Tryz.ntmps82
  go_wp2_with (first
    | (go_at_call 110; refine (cl _).mono ?_; rintro e w' ⟨rfl, rfl⟩)
    | (go_at_call 109; refine (pdq_none _ _ _).mono ?_; rintro e w' ⟨rfl, rfl⟩)
    | fail)
  go_end0
  exact ⟨rfl, rfl⟩
theorem sort_any {w : World} {B : Nat} {fv : Value} {l : List (Nat × Nat)} (h : w.ownsRow B tT 2 fv l.length (toldCells l)) (hn : (l.map (·.1)).Nodup) (hlen : l.length ≤ 10000000) :
    Calls Tryz.prog 82 #[fv, .func (.func 83) #[] #[]] w fun e w' => e = .returned (.tuple #[]) ∧ Chg w w' (fun b => fv.ownBlock = some b) ∧ w'.ownsRow B tT 2 fv l.length (toldCells (sortF l)) := by
  rcases h.2 with ⟨rfl, h0⟩ | ⟨g, cap, cur, rfl, hg, hh, hc, hm, hs, ht⟩
  · obtain rfl : l = [] := List.eq_nil_of_length_eq_zero h0
    refine (sort_none _ w).mono ?_
    rintro e w' ⟨rfl, rfl⟩
    exact ⟨rfl, Chg.refl _ _, h⟩
  · have eg : ∀ args w, (callFunc 83 args).run Tryz.prog w = .ok (.enter 83 args) w := fun args w => by kernel_rfl
    have hs2 : l.length * 2 ≤ cur.size := by rw [hs]; exact Nat.mul_le_mul_right 2 hc
    have hcon := AnyQ.slices_SortFunc Tryz.sortTold 2 Tryz.isAgg145 Tryz.sizeOf145 encT (fun _ => rfl) (fun x v hv => by simp [encT] at hv; rcases hv with rfl | rfl <;> rfl) cfT swoT 83 #[] g 0 cap l.toArray w eg
      (fun _ _ _ _ x y => cmpT x y _) (told_holdsK hh ht hs2) (Array.getElem?_eq_some_iff.1 hh).1 (by simp; omega)
    rw [show l.toArray.size = l.length by simp] at hcon
    refine hcon.mono ?_
    rintro e w' ⟨rfl, d', n, os, hp, hsd, rfl⟩
    have hd : d'.toList = sortF l := perm_told hn (by simpa using hp) (by simpa using hsd)
    obtain ⟨h1, cur', h2, h3, h4⟩ := sortWorld_told hh hs2 n d'.toList (by rw [hd]; exact (sortF_perm l).length_eq) os
    rw [Array.toArray_toList] at h1 h2
    rw [hd] at h4
    refine ⟨rfl, h1.mono (fun k _ e => by subst e; rfl), ?_, .inr ⟨g, cap, cur', rfl, hg, h2, hc, hm, by rw [h3, hs], h4⟩⟩
    rw [toldCells_length, (sortF_perm l).length_eq]
end Go.Proofs.YtcjmfjccjhdgjaaGreatDoor
namespace Go.Bd
def R (s : Bs) (i : Nat) (st : Pst) : Pst := runP s s.length i st
theorem R_step {s : Bs} {i : Nat} {st : Pst} (hI : Inv st i) (hi : i < s.length) : R s i st = R s (st.step s i).2 (st.step s i).1 := run_step hI hi (by omega)
theorem R_end {s : Bs} {i : Nat} {st : Pst} (h : s.length ≤ i) : R s i st = st := run_end st h
theorem step_code {s : Bs} {i : Nat} (st : Pst) (h : s.getD i 0 = 96) : st.step s i = st.between s i [96] [96] codeS := by
  unfold Pst.step
  rw [if_neg (by rw [h]; simp), if_pos h]
theorem step_note {s : Bs} {i : Nat} (st : Pst) (hi : i < s.length) (h : s.getD i 0 = 94) (hp : [94, 91].isPrefixOf (s.drop i) = true) (hr : st.room = true) : st.step s i = (st.begin 6 i [94, 91], i + 2) := by
  unfold Pst.step
  rw [if_neg (by rw [h]; simp), if_neg (by rw [h]; decide), if_neg (by rw [pre_ne hi (by rw [h]; decide)]; simp), if_neg (by rw [pre_ne hi (by rw [h]; decide)]; simp), if_pos hp, if_pos hr]
theorem step_shut {s : Bs} {i : Nat} (st : Pst) (hi : i < s.length) (h : s.getD i 0 = 93) (hl : 0 < lastK 6 st.fs) : st.step s i = (st.fin (lastK 6 st.fs), i + 1) := by
  unfold Pst.step
  rw [if_neg (by rw [h]; simp), if_neg (by rw [h]; decide), if_neg (by rw [pre_ne hi (by rw [h]; decide)]; simp), if_neg (by rw [pre_ne hi (by rw [h]; decide)]; simp), if_neg (by rw [pre_ne hi (by rw [h]; decide)]; simp), if_pos ⟨h, hl⟩]
def small (w : Bs) : Bool := w.all fun c => 97 ≤ c && c ≤ 122
theorem small_get {w : Bs} (h : small w = true) {j : Nat} (hj : j < w.length) : plainC (w.getD j 0) = true ∧ solid (w.getD j 0) = true ∧ blank (w.getD j 0) = false := by
  have h1 : (97 ≤ w.getD j 0 && w.getD j 0 ≤ 122) = true := by
    rw [List.getD_eq_getElem?_getD, List.getElem?_eq_getElem hj]
    exact List.all_eq_true.1 h _ (List.getElem_mem hj)
  generalize w.getD j 0 = c at h1
  have ne : ∀ k : UInt8, (97 ≤ k && k ≤ 122) = false → (c == k) = false := fun k hk => by
    rw [beq_eq_false_iff_ne]
    rintro rfl
    rw [h1] at hk; cases hk
  refine ⟨?_, ?_, ?_⟩
  · simp only [plainC, ne 42 (by decide), ne 95 (by decide), ne 60 (by decide), ne 40 (by decide), ne 94 (by decide), ne 93 (by decide), ne 92 (by decide), ne 96 (by decide)]; rfl
  · unfold solid; rw [h1]; simp
  · have n1 := ne 32 (by decide)
    have n2 := ne 9 (by decide)
    rw [beq_eq_false_iff_ne] at n1 n2
    cases hb : blank c with
    | false => rfl
    | true =>
      rcases (blank_iff c).1 hb with h | h
      · exact absurd (UInt8.toNat_inj.1 (by show c.toNat = 32; omega)) n1
      · exact absurd (UInt8.toNat_inj.1 (by show c.toNat = 9; omega)) n2
theorem endP_eq (s : Bs) : endP s = (R s 0 Pst.first).drop 0 := rfl
end Go.Bd
namespace Go.Bd
def AllText (s : Bs) : Prop := endP s = ⟨[⟨⟨[], s⟩, 0, [], 0⟩], []⟩
end Go.Bd
