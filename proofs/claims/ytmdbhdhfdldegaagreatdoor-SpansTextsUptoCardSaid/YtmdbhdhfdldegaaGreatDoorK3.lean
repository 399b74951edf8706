/-
  What the chapter's laws share, part 3: plain facts, memory, and walks of functions. Its conditions: those that each theorem names.
-/
import Derived.Laws.ResultCell
import Derived.Laws.Rows
import Derived.Test.YtmdbhdhfdldegaaGreatDoorShelf
import Derived.Laws.RangeAny
import Derived.Laws.Runes
import Derived.IntWalk
import Derived.Lib.OthersKept
import Derived.Shelf.Strings.SlTrimAscii
import Derived.Lib.IndexMore
import Derived.Lib.IndexBytes
import Derived.Laws.EntriesVeiled
import Derived.Test.YtmdbhdhfdldegaaGreatDoorK2
set_option linter.unusedSimpArgs false
set_option linter.unusedVariables false
namespace Go.Proofs.YtmdbhdhfdldegaaGreatDoor
open Go.RowKit Go.Bd
section
variable {w w' : World} {B : Nat} {col col' : Nat → Nat} {pb ob cap len : Nat} {s : ByteArray} {st : Pst} {fv : Value} {cs : Array Value}
def RQ (w : World) (B : Nat) (col : Nat → Nat) (pb : Nat) (s : ByteArray) (st : Pst) (w' : World) : Prop := ∃ col' ob' cap' fv' cs', RSx w' B col' pb ob' cap' st.fs.length s st fv' cs' ∧ Stay B w w' col col'
structure Rd8 (st : Pst) (i : Nat) : Prop where
  ok : PstOk st
  kd : PstKd st
  inv : Inv st i
theorem Rd8.one {i : Nat} (h : Rd8 st i) : ∃ f r, st.fs = f :: r ∧ r.length ≤ 1000 ∧ RwOk f.row ∧ wtR f.row ≤ i := by
  match hq : st.fs, h.inv.2.2.1 with
  | [], hq2 => simp at hq2
  | f :: r, _ =>
    have h1 := h.inv.1
    have h2 := h.inv.2.2.2
    rw [hq] at h1 h2
    rw [wtFs_cons] at h1
    refine ⟨f, r, rfl, by simp at h2; omega, h.ok f (by rw [hq]; exact List.mem_cons_self ..), by unfold wtF at h1; omega⟩
theorem text8_any (h : RSx w B col pb ob cap st.fs.length s st fv cs) {i : Nat} (hI : Rd8 st i) (hi : i ≤ 100000) (x : Bs) (hxl : x.length ≤ 1000000) :
    Calls Tryz.prog 37 #[.pointer (some ⟨pb, 0, none⟩), .string ⟨x.toArray⟩] w fun e w' => e = .returned (.tuple #[]) ∧
      ∃ col' cs', RSx w' B col' pb ob cap (st.write x).fs.length s (st.write x) fv cs' ∧ Stay B w w' col col' := by
  obtain ⟨f, r, hfs, hn, ok, hw⟩ := hI.one
  exact rtext_any h hfs hn ok (by omega) x hxl
theorem put8_any (h : RSx w B col pb ob cap st.fs.length s st fv cs) {i : Nat} (hI : Rd8 st i) (hi : i ≤ 100000) (x : Sp) (hk : x.kind ≠ 0) (hkid : x.kids = []) :
    Calls Tryz.prog 65 #[.pointer (some ⟨pb, 0, none⟩), .agg #[.int .u8 (x.kind : Int), strV x.text, strV x.sub, strV x.see, .slice none 0 0]] w fun e w' => e = .returned (.tuple #[]) ∧
      ∃ col' cs', RSx w' B col' pb ob cap (st.top (·.add x)).fs.length s (st.top (·.add x)) fv cs' ∧ Stay B w w' col col' := by
  obtain ⟨f, r, hfs, hn, ok, hw⟩ := hI.one
  exact rputTop_any h hfs hn ok (by omega) x (fun e => absurd e hk) _ (by rw [hkid]; exact Forest.nil _ _) (fun e => absurd e hk)
theorem Rd8.tell {i : Nat} (h : Rd8 st i) (a f : Nat) : Rd8 (st.tell a f) (i + 1) := ⟨h.ok, h.kd, h.inv.tell a f⟩
theorem wrong8_any (h : RSx w B col pb ob cap st.fs.length s st fv cs) {i : Nat} (hI : Rd8 st i) (hi : i ≤ 100000) (a f : Nat) :
    Calls Tryz.prog 67 #[.pointer (some ⟨pb, 0, none⟩), .int .i64 (a : Int), .int .i64 (f : Int)] w fun e w' => e = .returned (.tuple #[]) ∧
      ∃ col' fv', RSx w' B col' pb ob cap (st.tell a f).fs.length s (st.tell a f) fv' cs ∧ Stay B w w' col col' :=
  rwrong_any h a f (by have := hI.inv.2.1; omega)
set_option maxRecDepth 100000 in
set_option maxHeartbeats 2000000 in
theorem ropens_any (h : RSx w B col pb ob cap st.fs.length s st fv cs) {i : Nat} (hI : Rd8 st i) (hi : i ≤ 90000) (k a : Nat) (sign : Bs) (hs : sign.length ≤ 10) :
    Calls Tryz.prog 40 #[.pointer (some ⟨pb, 0, none⟩), .int .u8 (k : Int), .int .i64 (a : Int), .string ⟨sign.toArray⟩] w fun e w' => e = .returned (.tuple #[]) ∧
      RQ w B col pb s (if st.room = true then st.begin k a sign else (st.write sign).tell a 7) w' := by
  have hl17 := hI.inv.2.2.2
  by_cases hr : st.fs.length ≤ 16
  · have hrm : st.room = true := decide_eq_true hr
    rw [if_pos hrm]
    refine (ropens_room h rfl hr k a sign).mono ?_
    rintro e w' ⟨rfl, col', ob', cap', cs', h1, h2⟩
    exact ⟨rfl, col', ob', cap', fv, cs', h1, h2⟩
  · have hrm : st.room = false := decide_eq_false hr
    rw [hrm, if_neg (by simp)]
    have hwr := wrong8_any h hI (by omega) a 7
    have HWR : Hid (Calls Tryz.prog 67 #[.pointer (some ⟨pb, 0, none⟩), .int .i64 (a : Int), .int .i64 7] w fun e w' => e = .returned (.tuple #[]) ∧ ∃ col' fv', RSx w' B col' pb ob cap (st.tell a 7).fs.length s (st.tell a 7) fv' cs ∧ Stay B w w' col col') := Lib.hid hwr
    have p1 := h.hp.cell 1
    simp at p1
    obtain ⟨L, hL⟩ : ∃ L, st.fs.length = L := ⟨_, rfl⟩
    rw [hL] at p1 hr hl17
    have HI := Lib.hid hI
    clear hwr h hI hL
    go_enter Tryz.func40, Tryz.ntmps40
    go_wp2_with (first
      | (go_at_call 67; refine HWR.out.mono ?_; rintro e w1 ⟨rfl, col1, fv1, h1, st1⟩; have htx := text8_any h1 (HI.out.tell a 7) (by omega) sign (by omega); have ST1 := Lib.hid st1; have HTX := Lib.hid htx; clear h1 st1 htx)
      | (go_at_call 37; refine HTX.out.mono ?_; rintro e w2 ⟨rfl, col2, cs2, h2, st2⟩; have H2 := Lib.hid (And.intro h2 (ST1.out.trans st2)); clear h2 st2))
    (try simp only [Exit.inBlock, Exit.then])
    refine bodyPost_ret (results_none rfl _ _ _) rfl ?_
    exact ⟨rfl, _, _, _, _, _, H2.out.1, H2.out.2⟩
theorem cut_list8 (s : ByteArray) (i j : Nat) : (s.extract i j).data.toList = (s.data.toList.drop i).take (j - i) := by
  simp only [ByteArray.data_extract, Array.toList_extract, List.extract_eq_take_drop]
theorem next_room {t x : Bs} {i n : Nat} (h : nextAt t i x = some n) (hi : i ≤ t.length) : i ≤ n ∧ n + x.length ≤ t.length := by
  unfold nextAt at h
  split at h
  · cases h
  · rename_i hn
    injection h with h
    have := Lib.index_room (t.drop i) x (by omega)
    rw [List.length_drop] at this
    omega
theorem strV_cut (s : ByteArray) (i j : Nat) : strV ((s.data.toList.drop i).take (j - i)) = .string (s.extract i j) := by
  have e : (s.extract i j).data.toList = (s.data.toList.drop i).take (j - i) := by
    simp only [ByteArray.data_extract, Array.toList_extract, List.extract_eq_take_drop]
  rw [← e]
  unfold strV
  congr 1
theorem mk_cut (s : ByteArray) (i j : Nat) : (⟨((s.data.toList.drop i).take (j - i)).toArray⟩ : ByteArray) = s.extract i j := by
  have h := strV_cut s i j
  unfold strV at h
  injection h
set_option maxRecDepth 100000 in
set_option maxHeartbeats 4000000 in
theorem rbetween_code (h : RSx w B col pb ob cap st.fs.length s st fv cs) {i : Nat} (hI : Rd8 st i) (hi : i + 1 ≤ s.size) (hs : s.size ≤ 80000) :
    Calls Tryz.prog 38 #[.pointer (some ⟨pb, 0, none⟩), .int .i64 (i : Int), .string ⟨#[96]⟩, .string ⟨#[96]⟩] w fun e w' => e = .returned (.int .i64 ((st.between s.data.toList i [96] [96] codeS).2 : Int)) ∧
      RQ w B col pb s (st.between s.data.toList i [96] [96] codeS).1 w' := by
  have hfd := rfind_any s ⟨#[96]⟩ (i + 1) hi (by omega) (by decide) (by decide) w
  have p0 := h.hp.cell 0
  simp at p0
  cases hn : nextAt s.data.toList (i + 1) [96] with
  | none =>
    have hv : findV s.data.toList (i + 1) (⟨#[96]⟩ : ByteArray).data.toList = -1 := findV_none hn
    rw [hv] at hfd
    have hb : st.between s.data.toList i [96] [96] codeS = ((st.write [96]).tell i 7, i + 1) := by
      unfold Pst.between
      rw [show nextAt s.data.toList (i + ([96] : Bs).length) [96] = none from hn]
      rfl
    rw [hb]
    have hwr := wrong8_any h hI (by omega) i 7
    have HWR : Hid (Calls Tryz.prog 67 #[.pointer (some ⟨pb, 0, none⟩), .int .i64 (i : Int), .int .i64 7] w fun e w' => e = .returned (.tuple #[]) ∧ ∃ col' fv', RSx w' B col' pb ob cap (st.tell i 7).fs.length s (st.tell i 7) fv' cs ∧ Stay B w w' col col') := Lib.hid hwr
    have HI := Lib.hid hI
    clear hwr h hI hv hb
    go_enter Tryz.func38, Tryz.ntmps38
    go_wp2_with (first
      | (go_at_call 66; refine hfd.mono ?_; clear hfd; rintro e w0 ⟨rfl, hw0⟩; subst w0)
      | (go_at_call 67; refine HWR.out.mono ?_; rintro e w1 ⟨rfl, col1, fv1, h1, st1⟩; have htx := text8_any h1 (HI.out.tell i 7) (by omega) [96] (by decide); have ST1 := Lib.hid st1; have HTX : Hid (Calls Tryz.prog 37 #[.pointer (some ⟨pb, 0, none⟩), .string ⟨#[96]⟩] w1 fun e w' => e = .returned (.tuple #[]) ∧ ∃ col' cs', RSx w' B col' pb ob cap ((st.tell i 7).write [96]).fs.length s ((st.tell i 7).write [96]) fv1 cs' ∧ Stay B w1 w' col1 col') := Lib.hid htx; clear h1 st1 htx)
      | (go_at_call 37; refine HTX.out.mono ?_; rintro e w2 ⟨rfl, col2, cs2, h2, st2⟩; have H2 := Lib.hid (And.intro h2 (ST1.out.trans st2)); clear h2 st2))
    go_ret
    exact ⟨by go_num, _, _, _, _, _, H2.out.1, H2.out.2⟩
  | some n =>
    obtain ⟨hn1, hn2⟩ := next_room hn (by simp; omega)
    simp at hn2
    have hv : findV s.data.toList (i + 1) (⟨#[96]⟩ : ByteArray).data.toList = (n : Int) := findV_some hn
    rw [hv] at hfd
    have hb0 : st.between s.data.toList i [96] [96] codeS = (match codeS ((s.data.toList.drop (i + 1)).take (n - (i + 1))) with
        | .inr f => ((st.write ((s.data.toList.drop i).take (n + 1 - i))).tell i f, n + 1)
        | .inl x => (st.top (·.add x), n + 1)) := by
      unfold Pst.between
      rw [show nextAt s.data.toList (i + ([96] : Bs).length) [96] = some n from hn]
      rfl
    have hb : st.between s.data.toList i [96] [96] codeS = (st.top (·.add ⟨3, ((s.data.toList.drop (i + 1)).take (n - (i + 1))), [], [], []⟩), n + 1) := hb0
    rw [hb]
    clear hb hb0
    have hpt := put8_any h hI (by omega) ⟨3, ((s.data.toList.drop (i + 1)).take (n - (i + 1))), [], [], []⟩ (by simp) rfl
    have HPT : Hid (Calls Tryz.prog 65 #[.pointer (some ⟨pb, 0, none⟩), .agg #[.int .u8 3, .string (s.extract (i + 1) n), .string ⟨#[]⟩, .string ⟨#[]⟩, .slice none 0 0]] w fun e w' => e = .returned (.tuple #[]) ∧ ∃ col' cs', RSx w' B col' pb ob cap (st.top (·.add ⟨3, ((s.data.toList.drop (i + 1)).take (n - (i + 1))), [], [], []⟩)).fs.length s (st.top (·.add ⟨3, ((s.data.toList.drop (i + 1)).take (n - (i + 1))), [], [], []⟩)) fv cs' ∧ Stay B w w' col col') := Lib.hid (by rw [← strV_cut]; exact hpt)
    clear hpt h hI hv hn
    go_enter Tryz.func38, Tryz.ntmps38
    go_wp2_with (first
      | (go_at_call 66; refine hfd.mono ?_; clear hfd; rintro e w0 ⟨rfl, hw0⟩; subst w0)
      | (go_at_call 65; refine HPT.out.mono ?_; rintro e w2 ⟨rfl, col2, cs2, h2, st2⟩; have H2 := Lib.hid (And.intro h2 st2); clear h2 st2))
    go_ret
    exact ⟨by go_num, _, _, _, _, _, H2.out.1, H2.out.2⟩
set_option maxRecDepth 100000 in
set_option maxHeartbeats 4000000 in
theorem rbetween_ref (h : RSx w B col pb ob cap st.fs.length s st fv cs) {i : Nat} (hI : Rd8 st i) (hi : i + 2 ≤ s.size) (hs : s.size ≤ 80000) :
    Calls Tryz.prog 38 #[.pointer (some ⟨pb, 0, none⟩), .int .i64 (i : Int), .string ⟨#[60, 60]⟩, .string ⟨#[62, 62]⟩] w fun e w' => e = .returned (.int .i64 ((st.between s.data.toList i [60, 60] [62, 62] refS).2 : Int)) ∧
      RQ w B col pb s (st.between s.data.toList i [60, 60] [62, 62] refS).1 w' := by
  have hfd := rfind_any s ⟨#[62, 62]⟩ (i + 2) hi (by omega) (by decide) (by decide) w
  have p0 := h.hp.cell 0
  simp at p0
  cases hn : nextAt s.data.toList (i + 2) [62, 62] with
  | none =>
    have hv : findV s.data.toList (i + 2) (⟨#[62, 62]⟩ : ByteArray).data.toList = -1 := findV_none hn
    rw [hv] at hfd
    have hb : st.between s.data.toList i [60, 60] [62, 62] refS = ((st.write [60, 60]).tell i 7, i + 2) := by
      unfold Pst.between
      rw [show nextAt s.data.toList (i + ([60, 60] : Bs).length) [62, 62] = none from hn]
      rfl
    rw [hb]
    have hwr := wrong8_any h hI (by omega) i 7
    have HWR : Hid (Calls Tryz.prog 67 #[.pointer (some ⟨pb, 0, none⟩), .int .i64 (i : Int), .int .i64 7] w fun e w' => e = .returned (.tuple #[]) ∧ ∃ col' fv', RSx w' B col' pb ob cap (st.tell i 7).fs.length s (st.tell i 7) fv' cs ∧ Stay B w w' col col') := Lib.hid hwr
    have HI := Lib.hid hI
    clear hwr h hI hv hb
    go_enter Tryz.func38, Tryz.ntmps38
    go_wp2_with (first
      | (go_at_call 66; refine hfd.mono ?_; clear hfd; rintro e w0 ⟨rfl, hw0⟩; subst w0)
      | (go_at_call 67; refine HWR.out.mono ?_; rintro e w1 ⟨rfl, col1, fv1, h1, st1⟩; have htx := text8_any h1 (HI.out.tell i 7) (by omega) [60, 60] (by decide); have ST1 := Lib.hid st1; have HTX : Hid (Calls Tryz.prog 37 #[.pointer (some ⟨pb, 0, none⟩), .string ⟨#[60, 60]⟩] w1 fun e w' => e = .returned (.tuple #[]) ∧ ∃ col' cs', RSx w' B col' pb ob cap ((st.tell i 7).write [60, 60]).fs.length s ((st.tell i 7).write [60, 60]) fv1 cs' ∧ Stay B w1 w' col1 col') := Lib.hid htx; clear h1 st1 htx)
      | (go_at_call 37; refine HTX.out.mono ?_; rintro e w2 ⟨rfl, col2, cs2, h2, st2⟩; have H2 := Lib.hid (And.intro h2 (ST1.out.trans st2)); clear h2 st2))
    go_ret
    exact ⟨by go_num, _, _, _, _, _, H2.out.1, H2.out.2⟩
  | some n =>
    obtain ⟨hn1, hn2⟩ := next_room hn (by simp; omega)
    simp at hn2
    have hv : findV s.data.toList (i + 2) (⟨#[62, 62]⟩ : ByteArray).data.toList = (n : Int) := findV_some hn
    rw [hv] at hfd
    have hb0 : st.between s.data.toList i [60, 60] [62, 62] refS = (match refS ((s.data.toList.drop (i + 2)).take (n - (i + 2))) with
        | .inr f => ((st.write ((s.data.toList.drop i).take (n + 2 - i))).tell i f, n + 2)
        | .inl x => (st.top (·.add x), n + 2)) := by
      unfold Pst.between
      rw [show nextAt s.data.toList (i + ([60, 60] : Bs).length) [62, 62] = some n from hn]
      rfl
    have hnm := rname08_any (s.extract (i + 2) n) w (by simp; omega)
    rw [cut_list8] at hnm
    cases hnb : nameB ((s.data.toList.drop (i + 2)).take (n - (i + 2))) with
    | true =>
      rw [hnb] at hnm
      have hb : st.between s.data.toList i [60, 60] [62, 62] refS = (st.top (·.add ⟨4, ((s.data.toList.drop (i + 2)).take (n - (i + 2))), [], [], []⟩), n + 2) := by rw [hb0]; unfold refS; rw [hnb]; rfl
      rw [hb]
      clear hb hb0 hnb
      have hpt := put8_any h hI (by omega) ⟨4, ((s.data.toList.drop (i + 2)).take (n - (i + 2))), [], [], []⟩ (by simp) rfl
      have HPT : Hid (Calls Tryz.prog 65 #[.pointer (some ⟨pb, 0, none⟩), .agg #[.int .u8 4, .string (s.extract (i + 2) n), .string ⟨#[]⟩, .string ⟨#[]⟩, .slice none 0 0]] w fun e w' => e = .returned (.tuple #[]) ∧ ∃ col' cs', RSx w' B col' pb ob cap (st.top (·.add ⟨4, ((s.data.toList.drop (i + 2)).take (n - (i + 2))), [], [], []⟩)).fs.length s (st.top (·.add ⟨4, ((s.data.toList.drop (i + 2)).take (n - (i + 2))), [], [], []⟩)) fv cs' ∧ Stay B w w' col col') := Lib.hid (by rw [← strV_cut]; exact hpt)
      clear hpt h hI hv hn
      go_enter Tryz.func38, Tryz.ntmps38
      go_wp2_with (first
        | (go_at_call 66; refine hfd.mono ?_; clear hfd; rintro e w0 ⟨rfl, hw0⟩; subst w0)
        | (go_at_call 68; refine hnm.mono ?_; clear hnm; rintro e w0 ⟨rfl, hw0⟩; subst w0)
        | (go_at_call 65; refine HPT.out.mono ?_; rintro e w2 ⟨rfl, col2, cs2, h2, st2⟩; have H2 := Lib.hid (And.intro h2 st2); clear h2 st2))
      go_ret
      exact ⟨by go_num, _, _, _, _, _, H2.out.1, H2.out.2⟩
    | false =>
      rw [hnb] at hnm
      have hb : st.between s.data.toList i [60, 60] [62, 62] refS = ((st.write ((s.data.toList.drop i).take (n + 2 - i))).tell i 10, n + 2) := by rw [hb0]; unfold refS; rw [hnb]; rfl
      rw [hb]
      clear hb hb0 hnb
      have hwr := wrong8_any h hI (by omega) i 10
      have HWR : Hid (Calls Tryz.prog 67 #[.pointer (some ⟨pb, 0, none⟩), .int .i64 (i : Int), .int .i64 10] w fun e w' => e = .returned (.tuple #[]) ∧ ∃ col' fv', RSx w' B col' pb ob cap (st.tell i 10).fs.length s (st.tell i 10) fv' cs ∧ Stay B w w' col col') := Lib.hid hwr
      have HI := Lib.hid hI
      clear hwr h hI hv hn
      go_enter Tryz.func38, Tryz.ntmps38
      go_wp2_with (first
        | (go_at_call 66; refine hfd.mono ?_; clear hfd; rintro e w0 ⟨rfl, hw0⟩; subst w0)
        | (go_at_call 68; refine hnm.mono ?_; clear hnm; rintro e w0 ⟨rfl, hw0⟩; subst w0)
        | (go_at_call 67; refine HWR.out.mono ?_; rintro e w1 ⟨rfl, col1, fv1, h1, st1⟩; have htx := text8_any h1 (HI.out.tell i 10) (by omega) ((s.data.toList.drop i).take (n + 2 - i)) (by simp; omega); rw [mk_cut] at htx; have p01 := h1.hp.cell 0; simp at p01; have ST1 := Lib.hid st1; have HTX := Lib.hid htx; clear h1 st1 htx)
        | (go_at_call 37; refine HTX.out.mono ?_; rintro e w2 ⟨rfl, col2, cs2, h2, st2⟩; have H2 := Lib.hid (And.intro h2 (ST1.out.trans st2)); clear h2 st2))
      go_ret
      exact ⟨by go_num, _, _, _, _, _, H2.out.1, H2.out.2⟩
set_option maxRecDepth 100000 in
set_option maxHeartbeats 4000000 in
theorem rbetween_term (h : RSx w B col pb ob cap st.fs.length s st fv cs) {i : Nat} (hI : Rd8 st i) (hi : i + 2 ≤ s.size) (hs : s.size ≤ 80000) (hP : ∀ (t : ByteArray) (w : World), t.size ≤ 100000 → Calls Tryz.prog 64 #[.string t] w fun e w' => e = .returned (parseV t.data.toList) ∧ w = w') :
    Calls Tryz.prog 38 #[.pointer (some ⟨pb, 0, none⟩), .int .i64 (i : Int), .string ⟨#[40, 40]⟩, .string ⟨#[41, 41]⟩] w fun e w' => e = .returned (.int .i64 ((st.between s.data.toList i [40, 40] [41, 41] termS).2 : Int)) ∧
      RQ w B col pb s (st.between s.data.toList i [40, 40] [41, 41] termS).1 w' := by
  have hfd := rfind_any s ⟨#[41, 41]⟩ (i + 2) hi (by omega) (by decide) (by decide) w
  have p0 := h.hp.cell 0
  simp at p0
  cases hn : nextAt s.data.toList (i + 2) [41, 41] with
  | none =>
    have hv : findV s.data.toList (i + 2) (⟨#[41, 41]⟩ : ByteArray).data.toList = -1 := findV_none hn
    rw [hv] at hfd
    have hb : st.between s.data.toList i [40, 40] [41, 41] termS = ((st.write [40, 40]).tell i 7, i + 2) := by
      unfold Pst.between
      rw [show nextAt s.data.toList (i + ([40, 40] : Bs).length) [41, 41] = none from hn]
      rfl
    rw [hb]
    have hwr := wrong8_any h hI (by omega) i 7
    have HWR : Hid (Calls Tryz.prog 67 #[.pointer (some ⟨pb, 0, none⟩), .int .i64 (i : Int), .int .i64 7] w fun e w' => e = .returned (.tuple #[]) ∧ ∃ col' fv', RSx w' B col' pb ob cap (st.tell i 7).fs.length s (st.tell i 7) fv' cs ∧ Stay B w w' col col') := Lib.hid hwr
    have HI := Lib.hid hI
    clear hwr h hI hv hb
    go_enter Tryz.func38, Tryz.ntmps38
    go_wp2_with (first
      | (go_at_call 66; refine hfd.mono ?_; clear hfd; rintro e w0 ⟨rfl, hw0⟩; subst w0)
      | (go_at_call 67; refine HWR.out.mono ?_; rintro e w1 ⟨rfl, col1, fv1, h1, st1⟩; have htx := text8_any h1 (HI.out.tell i 7) (by omega) [40, 40] (by decide); have ST1 := Lib.hid st1; have HTX : Hid (Calls Tryz.prog 37 #[.pointer (some ⟨pb, 0, none⟩), .string ⟨#[40, 40]⟩] w1 fun e w' => e = .returned (.tuple #[]) ∧ ∃ col' cs', RSx w' B col' pb ob cap ((st.tell i 7).write [40, 40]).fs.length s ((st.tell i 7).write [40, 40]) fv1 cs' ∧ Stay B w1 w' col1 col') := Lib.hid htx; clear h1 st1 htx)
      | (go_at_call 37; refine HTX.out.mono ?_; rintro e w2 ⟨rfl, col2, cs2, h2, st2⟩; have H2 := Lib.hid (And.intro h2 (ST1.out.trans st2)); clear h2 st2))
    go_ret
    exact ⟨by go_num, _, _, _, _, _, H2.out.1, H2.out.2⟩
  | some n =>
    obtain ⟨hn1, hn2⟩ := next_room hn (by simp; omega)
    simp at hn2
    have hv : findV s.data.toList (i + 2) (⟨#[41, 41]⟩ : ByteArray).data.toList = (n : Int) := findV_some hn
    rw [hv] at hfd
    have hb0 : st.between s.data.toList i [40, 40] [41, 41] termS = (match termS ((s.data.toList.drop (i + 2)).take (n - (i + 2))) with
        | .inr f => ((st.write ((s.data.toList.drop i).take (n + 2 - i))).tell i f, n + 2)
        | .inl x => (st.top (·.add x), n + 2)) := by
      unfold Pst.between
      rw [show nextAt s.data.toList (i + ([40, 40] : Bs).length) [41, 41] = some n from hn]
      rfl
    have htm := hP (s.extract (i + 2) n) w (by simp; omega)
    rw [cut_list8] at htm
    unfold parseV at htm
    cases hpb : parseB ((s.data.toList.drop (i + 2)).take (n - (i + 2))) with
    | some abc =>
      obtain ⟨ta, tb, tc⟩ := abc
      rw [hpb] at htm
      unfold strV at htm
      have hb : st.between s.data.toList i [40, 40] [41, 41] termS = (st.top (·.add ⟨5, ta, tb, tc, []⟩), n + 2) := by rw [hb0]; unfold termS; rw [hpb]
      rw [hb]
      clear hb hb0 hpb
      have hpt := put8_any h hI (by omega) ⟨5, ta, tb, tc, []⟩ (by simp) rfl
      have HPT : Hid (Calls Tryz.prog 65 #[.pointer (some ⟨pb, 0, none⟩), .agg #[.int .u8 5, .string ⟨ta.toArray⟩, .string ⟨tb.toArray⟩, .string ⟨tc.toArray⟩, .slice none 0 0]] w fun e w' => e = .returned (.tuple #[]) ∧ ∃ col' cs', RSx w' B col' pb ob cap (st.top (·.add ⟨5, ta, tb, tc, []⟩)).fs.length s (st.top (·.add ⟨5, ta, tb, tc, []⟩)) fv cs' ∧ Stay B w w' col col') := Lib.hid (by skip; exact hpt)
      clear hpt h hI hv hn
      go_enter Tryz.func38, Tryz.ntmps38
      go_wp2_with (first
        | (go_at_call 66; refine hfd.mono ?_; clear hfd; rintro e w0 ⟨rfl, hw0⟩; subst w0)
        | (go_at_call 64; refine htm.mono ?_; clear htm; rintro e w0 ⟨rfl, hw0⟩; subst w0)
        | (go_at_call 65; refine HPT.out.mono ?_; rintro e w2 ⟨rfl, col2, cs2, h2, st2⟩; have H2 := Lib.hid (And.intro h2 st2); clear h2 st2))
      go_ret
      exact ⟨by go_num, _, _, _, _, _, H2.out.1, H2.out.2⟩
    | none =>
      rw [hpb] at htm
      unfold strV at htm
      have hb : st.between s.data.toList i [40, 40] [41, 41] termS = ((st.write ((s.data.toList.drop i).take (n + 2 - i))).tell i 8, n + 2) := by rw [hb0]; unfold termS; rw [hpb]
      rw [hb]
      clear hb hb0 hpb
      have hwr := wrong8_any h hI (by omega) i 8
      have HWR : Hid (Calls Tryz.prog 67 #[.pointer (some ⟨pb, 0, none⟩), .int .i64 (i : Int), .int .i64 8] w fun e w' => e = .returned (.tuple #[]) ∧ ∃ col' fv', RSx w' B col' pb ob cap (st.tell i 8).fs.length s (st.tell i 8) fv' cs ∧ Stay B w w' col col') := Lib.hid hwr
      have HI := Lib.hid hI
      clear hwr h hI hv hn
      go_enter Tryz.func38, Tryz.ntmps38
      go_wp2_with (first
        | (go_at_call 66; refine hfd.mono ?_; clear hfd; rintro e w0 ⟨rfl, hw0⟩; subst w0)
        | (go_at_call 64; refine htm.mono ?_; clear htm; rintro e w0 ⟨rfl, hw0⟩; subst w0)
        | (go_at_call 67; refine HWR.out.mono ?_; rintro e w1 ⟨rfl, col1, fv1, h1, st1⟩; have htx := text8_any h1 (HI.out.tell i 8) (by omega) ((s.data.toList.drop i).take (n + 2 - i)) (by simp; omega); rw [mk_cut] at htx; have p01 := h1.hp.cell 0; simp at p01; have ST1 := Lib.hid st1; have HTX := Lib.hid htx; clear h1 st1 htx)
        | (go_at_call 37; refine HTX.out.mono ?_; rintro e w2 ⟨rfl, col2, cs2, h2, st2⟩; have H2 := Lib.hid (And.intro h2 (ST1.out.trans st2)); clear h2 st2))
      go_ret
      exact ⟨by go_num, _, _, _, _, _, H2.out.1, H2.out.2⟩
end
end Go.Proofs.YtmdbhdhfdldegaaGreatDoor
namespace Go.Proofs.YtmdbhdhfdldegaaGreatDoor
open Go.RowKit Go.Bd
section
variable {w w' : World} {B : Nat} {col col' : Nat → Nat} {pb ob cap len : Nat} {s : ByteArray} {st : Pst} {fv : Value} {cs : Array Value}
theorem getD_get8 (s : ByteArray) (i : Nat) (h : i < s.size) : s.data.toList.getD i 0 = s[i] := by
  have e : s[i] = s.data.toList[i]'(by simpa using h) := by first | rfl | simp [ByteArray.getElem_eq_getElem_data]
  rw [e, List.getD_eq_getElem?_getD, List.getElem?_eq_getElem (by simpa using h)]
  rfl
theorem one_list8 (s : ByteArray) (i : Nat) (h : i < s.size) : s.extract i (i + 1) = ⟨[s.data.toList.getD i 0].toArray⟩ := by
  have hl : i < s.data.toList.length := by simpa using h
  have e := mk_cut s i (i + 1)
  rw [← e, Nat.add_sub_cancel_left, List.getD_eq_getElem?_getD, List.getElem?_eq_getElem hl, List.drop_eq_getElem_cons hl]
  simp
theorem rsAt (h : RSx w B col pb ob cap len s st fv cs) (n : Nat) (hn : n < st.fs.length) : w.cell? ⟨ob, n * 4 + 1, none⟩ = some (.int .i64 (atOf st.fs n : Int)) := by
  obtain ⟨f, hf⟩ : ∃ f, st.fs.reverse[n]? = some f := ⟨_, List.getElem?_eq_getElem (by simpa using hn)⟩
  obtain ⟨sv, hfr⟩ := h.fr n f hf
  unfold atOf
  rw [hf]
  exact (h.ho.cell (n * 4 + 1)).trans hfr.c1
set_option maxRecDepth 100000 in
set_option maxHeartbeats 4000000 in
theorem rstyle_any {i : Nat} (h : RSx w B col pb ob cap st.fs.length s st fv cs) (hI : Rd8 st i) (hi : i < s.size) (hs : s.size ≤ 80000) (k : Nat) (hk : k = if s[i].toNat = 95 then 2 else 1) (hat : 0 < lastK k st.fs → atOf st.fs (lastK k st.fs) < i) :
    Calls Tryz.prog 43 #[.pointer (some ⟨pb, 0, none⟩), .int .i64 (i : Int)] w fun e w' => e = .returned (.tuple #[]) ∧ RQ w B col pb s (st.mark s.data.toList i k) w' := by
  have h17 := hI.inv.2.2.2
  have h1 := hI.inv.2.2.1
  have p0 := h.hp.cell 0
  have p1 := h.hp.cell 1
  simp at p0 p1
  have hcap := h.hcap
  have hla : lastK k st.fs < st.fs.length := by rcases lastK_lt k st.fs with h0 | h0 <;> omega
  have HLA := rsAt h (lastK k st.fs) hla
  have cl := rlast_any h rfl (by omega) (by omega) k
  have HMK : Hid (st.mark s.data.toList i k = if lastK k st.fs > 0 ∧ atOf st.fs (lastK k st.fs) + 1 ≠ i ∧ 0 < i ∧ Bd.blank (s.data.toList.getD (i - 1) 0) = false ∧ ¬ (i + 1 < s.data.toList.length ∧ solid (s.data.toList.getD (i + 1) 0) = true) then st.fin (lastK k st.fs)
    else if (0 < i ∧ solid (s.data.toList.getD (i - 1) 0) = true) ∨ s.data.toList.length ≤ i + 1 ∨ Bd.blank (s.data.toList.getD (i + 1) 0) = true then st.write [s.data.toList.getD i 0]
    else if st.room = false then (st.write [s.data.toList.getD i 0]).tell i 7
    else st.begin k i [s.data.toList.getD i 0]) := rfl
  have CC : Hid (0 < lastK k st.fs → Calls Tryz.prog 42 #[.pointer (some ⟨pb, 0, none⟩), .int .i64 (lastK k st.fs : Int)] w fun e w' => e = .returned (.tuple #[]) ∧ RQ w B col pb s (st.fin (lastK k st.fs)) w') := fun h0 => by
    refine (rcloses_any h hI.ok hI.kd i hI.inv (by omega) (lastK k st.fs) h0 hla).mono ?_
    rintro e w' ⟨rfl, col', fv', cs', k1, k2⟩
    exact ⟨rfl, col', ob, cap, fv', cs', k1, k2⟩
  have CT : Hid (Calls Tryz.prog 37 #[.pointer (some ⟨pb, 0, none⟩), .string (s.extract i (i + 1))] w fun e w' => e = .returned (.tuple #[]) ∧ RQ w B col pb s (st.write [s.data.toList.getD i 0]) w') := by
    rw [one_list8 s i hi]
    refine (text8_any h hI (by omega) [s.data.toList.getD i 0] (by simp)).mono ?_
    rintro e w' ⟨rfl, col', cs', k1, k2⟩
    exact ⟨rfl, col', ob, cap, fv, cs', k1, k2⟩
  have CO : Hid (Calls Tryz.prog 40 #[.pointer (some ⟨pb, 0, none⟩), .int .u8 (k : Int), .int .i64 (i : Int), .string (s.extract i (i + 1))] w fun e w' => e = .returned (.tuple #[]) ∧ RQ w B col pb s (if st.room = true then st.begin k i [s.data.toList.getD i 0] else (st.write [s.data.toList.getD i 0]).tell i 7) w') := by
    rw [one_list8 s i hi]
    exact ropens_any h hI (by omega) k i [s.data.toList.getD i 0] (by simp)
  have cbp : ∀ (h : i - 1 < s.size) w, Calls Tryz.prog 70 #[.int .u8 ((s[i - 1]'h).toNat : Int)] w fun e w' => e = .returned (.bool (Bd.blank (s.data.toList.getD (i - 1) 0))) ∧ w = w' := fun h w => by
    rw [getD_get8 s (i - 1) h]; exact rblank_any _ w
  have cbn : ∀ (h : i + 1 < s.size) w, Calls Tryz.prog 70 #[.int .u8 ((s[i + 1]'h).toNat : Int)] w fun e w' => e = .returned (.bool (Bd.blank (s.data.toList.getD (i + 1) 0))) ∧ w = w' := fun h w => by
    rw [getD_get8 s (i + 1) h]; exact rblank_any _ w
  have csp : ∀ (h : i - 1 < s.size) w, Calls Tryz.prog 69 #[.int .u8 ((s[i - 1]'h).toNat : Int)] w fun e w' => e = .returned (.bool (solid (s.data.toList.getD (i - 1) 0))) ∧ w = w' := fun h w => by
    rw [getD_get8 s (i - 1) h]; exact rletter_any _ w
  have csn : ∀ (h : i + 1 < s.size) w, Calls Tryz.prog 69 #[.int .u8 ((s[i + 1]'h).toNat : Int)] w fun e w' => e = .returned (.bool (solid (s.data.toList.getD (i + 1) 0))) ∧ w = w' := fun h w => by
    rw [getD_get8 s (i + 1) h]; exact rletter_any _ w
  rw [show s.data.toList.length = s.size by simp] at HMK
  generalize hlk : lastK k st.fs = n at hla HLA cl HMK CC hat
  generalize hat' : atOf st.fs n = at' at HLA HMK hat
  generalize hrm : st.room = rm at HMK CO
  generalize Bd.blank (s.data.toList.getD (i - 1) 0) = bp at cbp HMK
  generalize Bd.blank (s.data.toList.getD (i + 1) 0) = bn at cbn HMK
  generalize solid (s.data.toList.getD (i - 1) 0) = sp at csp HMK
  generalize solid (s.data.toList.getD (i + 1) 0) = sn at csn HMK
  obtain ⟨L, hL⟩ : ∃ L, st.fs.length = L := ⟨_, rfl⟩
  rw [hL] at p1 hla h17 h1 hcap
  have HAT := Lib.hid hat
  clear h hI hL hlk hat' hrm hat
  obtain ⟨X, hX⟩ : ∃ X, st.mark s.data.toList i k = X := ⟨_, rfl⟩
  rw [hX] at HMK ⊢
  clear hX
  by_cases hi0 : i = 0
  · subst hi0
    have cbn1 : ∀ (h : 1 < s.size) w, Calls Tryz.prog 70 #[.int .u8 ((s[1]'h).toNat : Int)] w fun e w' => e = .returned (.bool bn) ∧ w = w' := fun h w => cbn h w
    have csn1 : ∀ (h : 1 < s.size) w, Calls Tryz.prog 69 #[.int .u8 ((s[1]'h).toNat : Int)] w fun e w' => e = .returned (.bool sn) ∧ w = w' := fun h w => csn h w
    by_cases h95 : s[0].toNat = 95
    · rw [if_pos h95] at hk
      subst hk
      go_enter Tryz.func43, Tryz.ntmps43
      go_wp2_with (first
        | (go_at_call 70; (first | with_reducible refine (cbp (by omega) _).mono ?_ | with_reducible refine (cbn1 (by omega) _).mono ?_); rintro e w' ⟨rfl, rfl⟩)
        | (go_at_call 69; (first | with_reducible refine (csp (by omega) _).mono ?_ | with_reducible refine (csn1 (by omega) _).mono ?_); rintro e w' ⟨rfl, rfl⟩)
        | (go_at_call 41; refine cl.mono ?_; rintro e w' ⟨rfl, rfl⟩)
        | fail)
      all_goals clear p0 p1 cbp cbn csp csn cbn1 csn1 cl HLA
      all_goals first
        | (refine CT.out.mono ?_
           have hm : X = st.write [s.data.toList.getD 0 0] := by
             have hh := HMK.out
             have ha := HAT.out
             clear HMK CC CT CO HAT
             rw [hh, if_neg (by grind), if_pos (by grind)]
           rintro e w5 ⟨rfl, hq⟩
           rw [← hm] at hq
           have HQ := Lib.hid hq
           clear hq hm
           go_wp2
           (try simp only [Exit.inBlock, Exit.then])
           first
           | go_end0
           | refine bodyPost_ret (results_none rfl _ _ _) rfl ?_
           exact ⟨rfl, HQ.out⟩)
        | (refine CO.out.mono ?_
           have hm : X = (if rm = true then st.begin 2 0 [s.data.toList.getD 0 0] else (st.write [s.data.toList.getD 0 0]).tell 0 7) := by
             have hh := HMK.out
             have ha := HAT.out
             clear HMK CC CT CO HAT
             rw [hh, if_neg (by grind), if_neg (by grind)]
             cases rm <;> rfl
           rintro e w5 ⟨rfl, hq⟩
           rw [← hm] at hq
           have HQ := Lib.hid hq
           clear hq hm
           go_wp2
           (try simp only [Exit.inBlock, Exit.then])
           first
           | go_end0
           | refine bodyPost_ret (results_none rfl _ _ _) rfl ?_
           exact ⟨rfl, HQ.out⟩)
        | (refine (CC.out (by omega)).mono ?_
           have hm : X = st.fin n := by
             have hh := HMK.out
             have ha := HAT.out
             clear HMK CC CT CO HAT
             rw [hh, if_pos (by grind)]
           rintro e w5 ⟨rfl, hq⟩
           rw [← hm] at hq
           have HQ := Lib.hid hq
           clear hq hm
           go_wp2
           (try simp only [Exit.inBlock, Exit.then])
           first
           | go_end0
           | refine bodyPost_ret (results_none rfl _ _ _) rfl ?_
           exact ⟨rfl, HQ.out⟩)
    · rw [if_neg h95] at hk
      subst hk
      go_enter Tryz.func43, Tryz.ntmps43
      go_wp2_with (first
        | (go_at_call 70; (first | with_reducible refine (cbp (by omega) _).mono ?_ | with_reducible refine (cbn1 (by omega) _).mono ?_); rintro e w' ⟨rfl, rfl⟩)
        | (go_at_call 69; (first | with_reducible refine (csp (by omega) _).mono ?_ | with_reducible refine (csn1 (by omega) _).mono ?_); rintro e w' ⟨rfl, rfl⟩)
        | (go_at_call 41; refine cl.mono ?_; rintro e w' ⟨rfl, rfl⟩)
        | fail)
      all_goals clear p0 p1 cbp cbn csp csn cbn1 csn1 cl HLA
      all_goals first
        | (refine CT.out.mono ?_
           have hm : X = st.write [s.data.toList.getD 0 0] := by
             have hh := HMK.out
             have ha := HAT.out
             clear HMK CC CT CO HAT
             rw [hh, if_neg (by grind), if_pos (by grind)]
           rintro e w5 ⟨rfl, hq⟩
           rw [← hm] at hq
           have HQ := Lib.hid hq
           clear hq hm
           go_wp2
           (try simp only [Exit.inBlock, Exit.then])
           first
           | go_end0
           | refine bodyPost_ret (results_none rfl _ _ _) rfl ?_
           exact ⟨rfl, HQ.out⟩)
        | (refine CO.out.mono ?_
           have hm : X = (if rm = true then st.begin 1 0 [s.data.toList.getD 0 0] else (st.write [s.data.toList.getD 0 0]).tell 0 7) := by
             have hh := HMK.out
             have ha := HAT.out
             clear HMK CC CT CO HAT
             rw [hh, if_neg (by grind), if_neg (by grind)]
             cases rm <;> rfl
           rintro e w5 ⟨rfl, hq⟩
           rw [← hm] at hq
           have HQ := Lib.hid hq
           clear hq hm
           go_wp2
           (try simp only [Exit.inBlock, Exit.then])
           first
           | go_end0
           | refine bodyPost_ret (results_none rfl _ _ _) rfl ?_
           exact ⟨rfl, HQ.out⟩)
        | (refine (CC.out (by omega)).mono ?_
           have hm : X = st.fin n := by
             have hh := HMK.out
             have ha := HAT.out
             clear HMK CC CT CO HAT
             rw [hh, if_pos (by grind)]
           rintro e w5 ⟨rfl, hq⟩
           rw [← hm] at hq
           have HQ := Lib.hid hq
           clear hq hm
           go_wp2
           (try simp only [Exit.inBlock, Exit.then])
           first
           | go_end0
           | refine bodyPost_ret (results_none rfl _ _ _) rfl ?_
           exact ⟨rfl, HQ.out⟩)
  have hipos : 0 < i := by omega
  have hl1 : 1 ≤ (i : Int) ∧ (i : Int) - 1 < (s.size : Int) := by omega
  by_cases h95 : s[i].toNat = 95
  · rw [if_pos h95] at hk
    subst hk
    go_enter Tryz.func43, Tryz.ntmps43
    go_wp2_with (first
      | (go_at_call 70; (first | with_reducible refine (cbp (by omega) _).mono ?_ | with_reducible refine (cbn (by omega) _).mono ?_); rintro e w' ⟨rfl, rfl⟩)
      | (go_at_call 69; (first | with_reducible refine (csp (by omega) _).mono ?_ | with_reducible refine (csn (by omega) _).mono ?_); rintro e w' ⟨rfl, rfl⟩)
      | (go_at_call 41; refine cl.mono ?_; rintro e w' ⟨rfl, rfl⟩)
      | fail)
    all_goals clear p0 p1 cbp cbn csp csn cl HLA
    all_goals first
      | (refine CT.out.mono ?_
         have hm : X = st.write [s.data.toList.getD i 0] := by
           have hh := HMK.out
           have ha := HAT.out
           clear HMK CC CT CO HAT
           rw [hh, if_neg (by grind), if_pos (by grind)]
         rintro e w5 ⟨rfl, hq⟩
         rw [← hm] at hq
         have HQ := Lib.hid hq
         clear hq hm
         go_wp2
         (try simp only [Exit.inBlock, Exit.then])
         first
         | go_end0
         | refine bodyPost_ret (results_none rfl _ _ _) rfl ?_
         exact ⟨rfl, HQ.out⟩)
      | (refine CO.out.mono ?_
         have hm : X = (if rm = true then st.begin 2 i [s.data.toList.getD i 0] else (st.write [s.data.toList.getD i 0]).tell i 7) := by
           have hh := HMK.out
           have ha := HAT.out
           clear HMK CC CT CO HAT
           rw [hh, if_neg (by grind), if_neg (by grind)]
           cases rm <;> rfl
         rintro e w5 ⟨rfl, hq⟩
         rw [← hm] at hq
         have HQ := Lib.hid hq
         clear hq hm
         go_wp2
         (try simp only [Exit.inBlock, Exit.then])
         first
         | go_end0
         | refine bodyPost_ret (results_none rfl _ _ _) rfl ?_
         exact ⟨rfl, HQ.out⟩)
      | (refine (CC.out (by omega)).mono ?_
         have hm : X = st.fin n := by
           have hh := HMK.out
           have ha := HAT.out
           clear HMK CC CT CO HAT
           rw [hh, if_pos (by grind)]
         rintro e w5 ⟨rfl, hq⟩
         rw [← hm] at hq
         have HQ := Lib.hid hq
         clear hq hm
         go_wp2
         (try simp only [Exit.inBlock, Exit.then])
         first
         | go_end0
         | refine bodyPost_ret (results_none rfl _ _ _) rfl ?_
         exact ⟨rfl, HQ.out⟩)
  · rw [if_neg h95] at hk
    subst hk
    go_enter Tryz.func43, Tryz.ntmps43
    go_wp2_with (first
      | (go_at_call 70; (first | with_reducible refine (cbp (by omega) _).mono ?_ | with_reducible refine (cbn (by omega) _).mono ?_); rintro e w' ⟨rfl, rfl⟩)
      | (go_at_call 69; (first | with_reducible refine (csp (by omega) _).mono ?_ | with_reducible refine (csn (by omega) _).mono ?_); rintro e w' ⟨rfl, rfl⟩)
      | (go_at_call 41; refine cl.mono ?_; rintro e w' ⟨rfl, rfl⟩)
      | fail)
    all_goals clear p0 p1 cbp cbn csp csn cl HLA
    all_goals first
      | (refine CT.out.mono ?_
         have hm : X = st.write [s.data.toList.getD i 0] := by
           have hh := HMK.out
           have ha := HAT.out
           clear HMK CC CT CO HAT
           rw [hh, if_neg (by grind), if_pos (by grind)]
         rintro e w5 ⟨rfl, hq⟩
         rw [← hm] at hq
         have HQ := Lib.hid hq
         clear hq hm
         go_wp2
         (try simp only [Exit.inBlock, Exit.then])
         first
         | go_end0
         | refine bodyPost_ret (results_none rfl _ _ _) rfl ?_
         exact ⟨rfl, HQ.out⟩)
      | (refine CO.out.mono ?_
         have hm : X = (if rm = true then st.begin 1 i [s.data.toList.getD i 0] else (st.write [s.data.toList.getD i 0]).tell i 7) := by
           have hh := HMK.out
           have ha := HAT.out
           clear HMK CC CT CO HAT
           rw [hh, if_neg (by grind), if_neg (by grind)]
           cases rm <;> rfl
         rintro e w5 ⟨rfl, hq⟩
         rw [← hm] at hq
         have HQ := Lib.hid hq
         clear hq hm
         go_wp2
         (try simp only [Exit.inBlock, Exit.then])
         first
         | go_end0
         | refine bodyPost_ret (results_none rfl _ _ _) rfl ?_
         exact ⟨rfl, HQ.out⟩)
      | (refine (CC.out (by omega)).mono ?_
         have hm : X = st.fin n := by
           have hh := HMK.out
           have ha := HAT.out
           clear HMK CC CT CO HAT
           rw [hh, if_pos (by grind)]
         rintro e w5 ⟨rfl, hq⟩
         rw [← hm] at hq
         have HQ := Lib.hid hq
         clear hq hm
         go_wp2
         (try simp only [Exit.inBlock, Exit.then])
         first
         | go_end0
         | refine bodyPost_ret (results_none rfl _ _ _) rfl ?_
         exact ⟨rfl, HQ.out⟩)
end
end Go.Proofs.YtmdbhdhfdldegaaGreatDoor
namespace Go.Bd
open Go.RowKit Go.Proofs.YtmdbhdhfdldegaaGreatDoor
def PstAt (st : Pst) (i : Nat) : Prop := ∀ f ∈ st.fs.dropLast, f.at' < i
theorem onTop_at (g : Rw → Rw) (l : List Fr) : ∀ f ∈ (onTop g l).dropLast, ∃ f' ∈ l.dropLast, f.at' = f'.at' := fun f hf => by
  match l, hf with
  | [], hf => simp [onTop] at hf
  | [a], hf => simp [onTop] at hf
  | a :: b :: r, hf =>
    simp only [onTop, List.dropLast_cons_cons] at hf
    rcases List.mem_cons.1 hf with rfl | h1
    · exact ⟨a, by simp, rfl⟩
    · exact ⟨f, by rw [List.dropLast_cons_cons]; exact List.mem_cons_of_mem _ h1, rfl⟩
theorem PstAt.first : PstAt Pst.first 0 := fun f hf => by simp [Pst.first] at hf
theorem PstAt.more {st : Pst} {i j : Nat} (h : PstAt st i) (hj : i ≤ j) : PstAt st j := fun f hf => by have := h f hf; omega
theorem PstAt.top {st : Pst} {i : Nat} (h : PstAt st i) (g : Rw → Rw) : PstAt (st.top g) i := fun f hf => by
  obtain ⟨f', h1, h2⟩ := onTop_at g st.fs f hf
  rw [h2]; exact h f' h1
theorem PstAt.tell {st : Pst} {i : Nat} (h : PstAt st i) (a f : Nat) : PstAt (st.tell a f) i := h
theorem PstAt.begin {st : Pst} {i j : Nat} (h : PstAt st i) (hj : i < j) (k : Nat) (s : Bs) : PstAt (st.begin k i s) j := fun f hf => by
  match hq : st.fs with
  | [] =>
    unfold Pst.begin at hf
    simp [hq] at hf
  | a :: r =>
    unfold Pst.begin at hf
    simp only [hq, List.dropLast_cons_cons] at hf
    rcases List.mem_cons.1 hf with rfl | h1
    · exact hj
    · have := h f (by rw [hq]; exact h1); omega
theorem PstAt.drop1 {st : Pst} {i : Nat} (h : PstAt st i) : PstAt st.drop1 i := by
  unfold Pst.drop1
  split
  · rename_i f g r hq
    intro x hx
    obtain ⟨x', h1, h2⟩ := onTop_at (spill f) (g :: r) x hx
    rw [h2]
    exact h x' (by rw [hq, List.dropLast_cons_cons]; exact List.mem_cons_of_mem _ h1)
  · exact h
theorem PstAt.dropN {i : Nat} : ∀ (n : Nat) {st : Pst}, PstAt st i → PstAt (st.dropN n) i
  | 0, _, h => h
  | n + 1, _, h => PstAt.dropN n h.drop1
theorem PstAt.shut {st : Pst} {i : Nat} (h : PstAt st i) : PstAt st.shut i := by
  unfold Pst.shut
  split
  · rename_i f r hq
    intro x hx
    obtain ⟨x', h1, h2⟩ := onTop_at (fun q => q.add ⟨f.kind, [], [], [], f.row.flush.sp⟩) r x hx
    rw [h2]
    match r, hq, h1 with
    | [], hq, h1 => simp at h1
    | g :: r, hq, h1 => exact h x' (by rw [hq, List.dropLast_cons_cons]; exact List.mem_cons_of_mem _ h1)
  · exact h
theorem PstAt.fin {st : Pst} {i : Nat} (h : PstAt st i) (n : Nat) : PstAt (st.fin n) i := PstAt.shut (PstAt.dropN _ h)
theorem PstAt.at {st : Pst} {i n : Nat} (h : PstAt st i) (h0 : 0 < n) (hn : n < st.fs.length) : atOf st.fs n < i := by
  obtain ⟨f, hf⟩ : ∃ f, st.fs.reverse[n]? = some f := ⟨_, List.getElem?_eq_getElem (by simpa using hn)⟩
  unfold atOf
  rw [hf]
  refine h f ?_
  rw [List.getElem?_reverse hn] at hf
  have e : st.fs.dropLast[st.fs.length - 1 - n]? = some f := by
    rw [List.getElem?_dropLast, if_pos (by omega)]; exact hf
  exact List.mem_of_getElem? e
structure Rd9 (st : Pst) (i : Nat) : Prop where
  ok : PstOk st
  kd : PstKd st
  inv : Inv st i
  pos : PstAt st i
theorem Rd9.eight {st : Pst} {i : Nat} (h : Rd9 st i) : Rd8 st i := ⟨h.ok, h.kd, h.inv⟩
theorem Rd9.first : Rd9 Pst.first 0 := ⟨PstOk.first, PstKd.first, Inv.first, PstAt.first⟩
structure Keep3 (st : Pst) (i : Nat) (st' : Pst) (j : Nat) : Prop where
  ok : PstOk st → PstKd st → PstOk st'
  kd : PstKd st → st.fs ≠ [] → PstKd st'
  pos : PstAt st i → PstAt st' j
theorem k3_write (st : Pst) {i j : Nat} (hj : i ≤ j) (s : Bs) : Keep3 st i (st.write s) j := ⟨fun h _ => h.write s, fun h _ => h.top _, fun h => (h.top _).more hj⟩
theorem k3_wtell (st : Pst) {i j : Nat} (hj : i ≤ j) (s : Bs) (a f : Nat) : Keep3 st i ((st.write s).tell a f) j := ⟨fun h _ => (h.write s).tell a f, fun h _ => (h.top _).tell a f, fun h => ((h.top _).tell a f).more hj⟩
theorem k3_add (st : Pst) {i j : Nat} (hj : i ≤ j) {x : Sp} (hx : x.ok) : Keep3 st i (st.top (·.add x)) j := ⟨fun h _ => h.top fun _ hr => hr.add hx, fun h _ => h.top _, fun h => (h.top _).more hj⟩
theorem k3_fin (st : Pst) {i j : Nat} (hj : i ≤ j) (n : Nat) : Keep3 st i (st.fin n) j := ⟨fun h k => h.fin k n, fun h _ => h.fin n, fun h => (h.fin n).more hj⟩
theorem k3_begin (st : Pst) {i j k : Nat} (hj : i < j) (hk : k ≠ 0) (s : Bs) : Keep3 st i (st.begin k i s) j := ⟨fun h _ => h.begin k i s, fun h h2 => h.begin hk h2 i s, fun h => h.begin hj k s⟩
theorem k3_mark (st : Pst) (s : Bs) (i k : Nat) (hk : k ≠ 0) : Keep3 st i (st.mark s i k) (i + 1) := by
  unfold Pst.mark
  split
  · exact k3_fin st (by omega) _
  · split
    · exact k3_write st (by omega) _
    · split
      · exact k3_wtell st (by omega) _ _ _
      · exact k3_begin st (by omega) hk _
theorem k3_between (st : Pst) (s : Bs) (i : Nat) (a b : Bs) (af : Bs → Sp ⊕ Nat) (has : af = codeS ∨ af = refS ∨ af = termS) (hle : i ≤ (st.between s i a b af).2) : Keep3 st i (st.between s i a b af).1 (st.between s i a b af).2 := by
  unfold Pst.between at hle ⊢
  split at hle
  · exact k3_wtell st hle _ _ _
  · rename_i n h
    have hk : ∀ l x, af l = .inl x → x.kind ≠ 0 := fun l x hx => by
      rcases has with rfl | rfl | rfl
      · cases hx; simp
      · unfold refS at hx; split at hx <;> cases hx; simp
      · unfold termS at hx; split at hx <;> cases hx; simp
    cases hx : af ((s.drop (i + a.length)).take (n - (i + a.length))) with
    | inr f =>
      rw [hx] at hle
      exact k3_wtell st hle _ _ _
    | inl x =>
      rw [hx] at hle
      exact k3_add st hle (fun e => absurd e (hk _ _ hx))
theorem k3_step (st : Pst) (s : Bs) (i : Nat) (hle : i ≤ (st.step s i).2) : Keep3 st i (st.step s i).1 (st.step s i).2 := by
  unfold Pst.step at hle ⊢
  split
  · exact k3_write st (by omega) _
  split
  · rename_i h1 h2
    rw [if_neg h1, if_pos h2] at hle
    exact k3_between st s i _ _ _ (.inl rfl) hle
  split
  · rename_i h1 h2 h3
    rw [if_neg h1, if_neg h2, if_pos h3] at hle
    exact k3_between st s i _ _ _ (.inr (.inl rfl)) hle
  split
  · rename_i h1 h2 h3 h4
    rw [if_neg h1, if_neg h2, if_neg h3, if_pos h4] at hle
    exact k3_between st s i _ _ _ (.inr (.inr rfl)) hle
  split
  · simp only
    split
    · exact k3_begin st (by omega) (by decide) _
    · exact k3_wtell st (by omega) _ _ _
  split
  · exact k3_fin st (by omega) _
  split
  · exact k3_mark st s i 1 (by decide)
  split
  · exact k3_mark st s i 2 (by decide)
  · exact k3_write st (by omega) _
theorem Rd9.step {st : Pst} {s : Bs} {i : Nat} (h : Rd9 st i) (hi : i < s.length) : Rd9 (st.step s i).1 (st.step s i).2 ∧ i < (st.step s i).2 ∧ (st.step s i).2 ≤ s.length := by
  obtain ⟨h1, h2, h3⟩ := h.inv.step hi
  have k := k3_step st s i (by omega)
  exact ⟨⟨k.ok h.ok h.kd, k.kd h.kd (fun e => by have := h.inv.2.2.1; rw [e] at this; simp at this), h1, k.pos h.pos⟩, h2, h3⟩
end Go.Bd
namespace Go.Bd
open Go.RowKit Go.Proofs.YtmdbhdhfdldegaaGreatDoor
def frame8 : Array Value := #[.int .u8 0, .int .i64 0, .string ⟨#[]⟩, .slice none 0 0]
def colFirst8 (B : Nat) (b : Nat) : Nat := if b < B then 5 else if b = B then 1 else if b = B + 1 then 0 else 9
def firstW8 (w : World) (s : ByteArray) : World := (w.alloc (.cells frame8 tG)).alloc (.cells #[.string s, .slice (some ⟨w.heap.size, 0, none⟩) 1 1, .slice none 0 0] tR)
theorem rsFirst (w : World) (s : ByteArray) : RSx (firstW8 w s) w.heap.size (colFirst8 w.heap.size) (w.heap.size + 1) w.heap.size 1 1 s Pst.first (.slice none 0 0) frame8 := by
  have hz : (firstW8 w s).heap.size = w.heap.size + 2 := by simp [firstW8]
  have hp : Holds (firstW8 w s) (w.heap.size + 1) tR #[.string s, .slice (some ⟨w.heap.size, 0, none⟩) 1 1, .slice none 0 0] := by
    have := Holds.new (w.alloc (.cells frame8 tG)) tR #[.string s, .slice (some ⟨w.heap.size, 0, none⟩) 1 1, .slice none 0 0]
    simpa [firstW8] using this
  have ho : Holds (firstW8 w s) w.heap.size tG frame8 := (Holds.new w tG frame8).alloc _
  refine ⟨by omega, hp, by unfold colFirst8; rw [if_neg (by omega), if_neg (by omega), if_pos (by omega)], Nat.le_refl _, ho, by simp [colFirst8], rfl, by omega, by simp [Pst.first], by unfold maxLen; omega, ?_, World.ownsRow_nil _ _ _ _, (fun b hb => by cases hb), fun b hb => ?_, fun b hb => ?_⟩
  · intro k f hf
    have hk : k = 0 := by
      have := (List.getElem?_eq_some_iff.1 hf).1
      simp [Pst.first] at this
      omega
    subst hk
    simp only [Pst.first, List.reverse_singleton, List.getElem?_cons_zero, Option.some.injEq] at hf
    subst hf
    exact ⟨.slice none 0 0, ⟨rfl, rfl, rfl, rfl, SpanRow.nil _ _ _ _, (fun b hb => by cases hb)⟩⟩
  · rw [hz] at hb
    unfold colFirst8
    rw [if_neg (by omega), if_neg (by omega), if_neg (by omega)]
  · unfold colFirst8
    rw [if_pos hb]
end Go.Bd
namespace Go.Proofs.YtmdbhdhfdldegaaGreatDoor
open Go.RowKit Go.Bd
def P7 : Prop := ∀ (t : ByteArray) (w : World), t.size ≤ 100000 → Calls Tryz.prog 64 #[.string t] w fun e w' => e = .returned (parseV t.data.toList) ∧ w = w'
def At8 (w wr : World) (col : Nat → Nat) (B pb : Nat) (s : ByteArray) (st : Pst) (k : Nat) : Prop := (∃ col' ob cap fv cs, RSx wr B col' pb ob cap st.fs.length s st fv cs ∧ Stay B w wr col col') ∧ Rd9 st k
theorem At8.next {w wr w' : World} {col col1 : Nat → Nat} {B pb k : Nat} {s : ByteArray} {st : Pst} (hk : k < s.size) (h9 : Rd9 st k) (hs : Stay B w wr col col1)
    (hq : RQ wr B col1 pb s (st.step s.data.toList k).1 w') : At8 w w' col B pb s (st.step s.data.toList k).1 (st.step s.data.toList k).2 := by
  obtain ⟨c2, ob', cap', fv', cs', h1, h2⟩ := hq
  exact ⟨⟨c2, ob', cap', fv', cs', h1, hs.trans h2⟩, (h9.step (by simpa using hk)).1⟩
end Go.Proofs.YtmdbhdhfdldegaaGreatDoor
namespace Go.Proofs.YtmdbhdhfdldegaaGreatDoor
open Go.RowKit Go.Bd
theorem p7 : P7 := fun t w ht => R7.refParse_any t w (by omega)
end Go.Proofs.YtmdbhdhfdldegaaGreatDoor
namespace Go.Bd
open Go.RowKit Go.Proofs.YtmdbhdhfdldegaaGreatDoor
def FqAt (w : World) (A : Option Addr) (L : List (Int × Nat)) : Prop := L = [] ∨ ∃ fb cur, A = some ⟨fb, 0, none⟩ ∧ Holds w fb tU cur ∧ L.length * 2 ≤ cur.size ∧ ∀ k p, L[k]? = some p → cur[k * 2]? = some (.int .i64 p.1) ∧ cur[k * 2 + 1]? = some (.int .i64 (p.2 : Int))
def livesQ (L : List (Int × Nat)) : Nat := L.countP fun p => decide (0 ≤ p.1)
theorem toldQ_get : ∀ (l : List (Nat × Nat)) (k : Nat) (p : Nat × Nat), l[k]? = some p → (toldCells l)[k * 2]? = some (.int .i64 (p.1 : Int)) ∧ (toldCells l)[k * 2 + 1]? = some (.int .i64 (p.2 : Int))
  | a :: l, 0, p, h => by simp only [List.getElem?_cons_zero, Option.some.injEq] at h; subst h; simp [toldCells]
  | a :: l, k + 1, p, h => by
    have h1 := toldQ_get l k p (by simpa using h)
    have e1 : (k + 1) * 2 = k * 2 + 2 := by omega
    have e3 : toldCells (a :: l) = [.int .i64 (a.1 : Int), .int .i64 (a.2 : Int)] ++ toldCells l := rfl
    rw [e1, e3]
    exact h1
theorem FqAt.first {w : World} {B n c : Nat} {A : Option Addr} {l : List (Nat × Nat)} (h : w.ownsRow B tU 2 (.slice A n c) l.length (toldCells l)) : FqAt w A (l.map fun (p : Nat × Nat) => ((p.1 : Int), p.2)) := by
  rcases h.2 with ⟨h1, h0⟩ | ⟨g, cap, cur, hv, _, hg, hc, _, hs, ht⟩
  · exact .inl (by rw [List.length_eq_zero_iff.1 h0]; rfl)
  · injection hv with e1
    refine .inr ⟨g, cur, e1, hg, by rw [List.length_map]; omega, fun k p hp => ?_⟩
    rw [List.getElem?_map] at hp
    cases hq : l[k]? with
    | none => rw [hq] at hp; cases hp
    | some q =>
      rw [hq] at hp
      simp only [Option.map_some, Option.some.injEq] at hp
      subst hp
      have h1 := toldQ_get l k q hq
      have hk : k < l.length := (List.getElem?_eq_some_iff.1 hq).1
      rw [← ht, List.getElem?_take, List.getElem?_take, if_pos (by omega), if_pos (by omega)] at h1
      simpa using h1
theorem livesQ_first (l : List (Nat × Nat)) : livesQ (l.map fun (p : Nat × Nat) => ((p.1 : Int), p.2)) = l.length := by
  unfold livesQ
  rw [List.countP_map]
  have e : ((fun p : Int × Nat => decide (0 ≤ p.1)) ∘ fun p : Nat × Nat => ((p.1 : Int), p.2)) = fun _ => true := by
    funext p; simp
  rw [e]; simp
theorem livesQ_set {L : List (Int × Nat)} {k : Nat} {p : Int × Nat} (h : L[k]? = some p) (h0 : 0 ≤ p.1) (f : Nat) : livesQ (L.set k (-1, f)) + 1 = livesQ L := by
  obtain ⟨hk, he⟩ := List.getElem?_eq_some_iff.1 h
  have h1 : 0 < livesQ L := List.countP_pos_iff.2 ⟨p, List.mem_of_getElem? h, decide_eq_true h0⟩
  unfold livesQ at h1 ⊢
  rw [List.countP_set hk, he]
  simp [h0]
  omega
theorem livesQ_find {L : List (Int × Nat)} (h : 0 < livesQ L) : ∃ (k : Nat) (p : Int × Nat), L[k]? = some p ∧ 0 ≤ p.1 := by
  obtain ⟨p, hp, h0⟩ := List.countP_pos_iff.1 h
  obtain ⟨k, hk⟩ := List.getElem?_of_mem hp
  exact ⟨k, p, hk, of_decide_eq_true h0⟩
theorem FqAt.keep {w w' : World} {A : Option Addr} {L : List (Int × Nat)} {S : Nat → Prop} (h : FqAt w A L) (hc : Chg w w' S) (hS : ∀ a, A = some a → ¬ S a.block) : FqAt w' A L := by
  rcases h with h | ⟨fb, cur, rfl, h1, h2⟩
  · exact .inl h
  · exact .inr ⟨fb, cur, rfl, hc.holds (hS _ rfl) h1, h2⟩
theorem FqAt.set {w : World} {fb : Nat} {L : List (Int × Nat)} {k : Nat} {p : Int × Nat} (h : FqAt w (some ⟨fb, 0, none⟩) L) (hp : L[k]? = some p) : FqAt (w.setCell ⟨fb, k * 2, none⟩ (.int .i64 (-1))) (some ⟨fb, 0, none⟩) (L.set k (-1, p.2)) := by
  have hk := (List.getElem?_eq_some_iff.1 hp).1
  rcases h with h | ⟨fb', cur, e, h1, h2, h3⟩
  · rw [h] at hk; simp at hk
  · injection e with e
    injection e with e
    subst e
    refine .inr ⟨fb, _, rfl, h1.set _ _, by simpa using h2, fun j q hq => ?_⟩
    by_cases hj : j = k
    · subst hj
      rw [List.getElem?_set_self hk] at hq
      injection hq with hq
      subst hq
      rw [Array.getElem?_setIfInBounds_self_of_lt (by omega), Array.getElem?_setIfInBounds_ne (by omega)]
      exact ⟨rfl, (h3 j p hp).2⟩
    · rw [List.getElem?_set_ne (by omega)] at hq
      rw [Array.getElem?_setIfInBounds_ne (by omega), Array.getElem?_setIfInBounds_ne (by omega)]
      exact h3 j q hq
def FqK (L : List (Int × Nat)) (m : Int) (i : Nat) : Prop := (m = -1 ∧ ∀ j p, j < i → L[j]? = some p → p.1 < 0) ∨ ∃ k p, m = ((k : Nat) : Int) ∧ k < i ∧ L[k]? = some p ∧ 0 ≤ p.1
theorem FqK.skip {L : List (Int × Nat)} {m : Int} {i : Nat} (h : FqK L m i) {p : Int × Nat} (hp : L[i]? = some p) (h0 : p.1 < 0 ∨ m ≠ -1) : FqK L m (i + 1) := by
  rcases h with ⟨h1, h2⟩ | ⟨k, q, h1, h2, h3⟩
  · refine .inl ⟨h1, fun j q hj hq => ?_⟩
    by_cases hji : j = i
    · subst hji; rw [hp] at hq; injection hq with hq; subst hq; omega
    · exact h2 j q (by omega) hq
  · exact .inr ⟨k, q, h1, by omega, h3⟩
theorem FqK.take {L : List (Int × Nat)} {i : Nat} {p : Int × Nat} (hp : L[i]? = some p) (h0 : 0 ≤ p.1) : FqK L (i : Int) (i + 1) := .inr ⟨i, p, rfl, by omega, hp, h0⟩
end Go.Bd
namespace Go.Proofs.YtmdbhdhfdldegaaGreatDoor
open Go.RowKit Go.Bd
theorem rfault1_info : (Tryz.prog.info? 70).map (fun i => (i.zero, i.size, i.bytes)) = some (some (.int .i64 0), 1, 8) := by kernel_rfl
section
variable {w : World} {B : Nat} {col : Nat → Nat} {pb ob cap len : Nat} {s : ByteArray} {st : Pst} {fv : Value} {cs : Array Value}
set_option maxRecDepth 100000 in
set_option maxHeartbeats 4000000 in
theorem rsorted_any (h : RSx w B col pb ob cap len s st fv cs) (hfl : st.faults.length ≤ 1000000) :
    Calls Tryz.prog 45 #[.pointer (some ⟨pb, 0, none⟩)] w fun e w' => ∃ v xs, e = .returned v ∧ w'.ownsRow w.heap.size 70 1 v st.faults.length xs ∧ Chg w w' (fun b => fv.ownBlock = some b) := by
  obtain ⟨n, hn⟩ : ∃ n, st.faults.length = n := ⟨_, rfl⟩
  obtain ⟨A, c, hfv, hac⟩ := own_slice2 h.hf
  have hF := h.hf
  rw [hfv] at hF
  have hL0 := FqAt.first hF
  have hL1 := livesQ_first st.faults
  have hpf : fv.ownBlock ≠ some pb := fun e => by have h1 := h.cf _ e; have h2 := h.cp; omega
  have hp := h.hp
  have hfb : ∀ a, A = some a → a.block < w.heap.size := fun a e => by
    subst e
    exact (hF.lt a.block rfl).2
  rw [hfv] at hp hpf
  rw [hn] at hac hfl hp hL1 hpf
  rw [hfv, hn]
  obtain ⟨L0, hL⟩ : ∃ L0, (st.faults.map fun (p : Nat × Nat) => ((p.1 : Int), p.2)) = L0 := ⟨_, rfl⟩
  have hl0 : L0.length = n := by rw [← hL, List.length_map, hn]
  rw [hL] at hL0 hL1
  clear hF hL hfv h hn
  have HP := Lib.hid (And.intro hp hfb)
  have H0 := Lib.hid (And.intro hL0 (And.intro hL1 hl0))
  clear hp hfb hL0 hL1 hl0
  go_enter Tryz.func45, Tryz.ntmps45
  go_wp2_with fail
  go_loopg [3] n (fun q v wr => ∃ (j : Nat) (xs : List Value) (L : List (Int × Nat)), j + q = n ∧ Hid (wr.ownsRow w.heap.size 70 1 v j xs ∧ Chg w wr (fun b => (Value.slice A n c).ownBlock = some b) ∧ FqAt wr A L ∧ livesQ L + j = n ∧ L.length = n))
  case atStart => exact ⟨0, [], L0, by omega, Lib.hid ⟨World.ownsRow_nil _ _ _ _, Chg.refl _ _, H0.out.1, H0.out.2.1, H0.out.2.2⟩⟩
  case round =>
    obtain ⟨j, xs, L, hj, HS⟩ := hrel
    obtain ⟨ho, hch, hq, hlv, hln⟩ := HS.out
    obtain ⟨Ao, co, rfl, hco⟩ := own_slice2 ho
    have hp1 := hch.holds hpf HP.out.1
    have p2 := hp1.cell 2
    simp at p2
    clear HS
    by_cases hlt : j < n
    · rcases hq with h0 | ⟨fb, cur, rfl, hq1, hq2, hq3⟩
      · rw [h0] at hln; simp at hln; omega
      have H2 := Lib.hid (And.intro ho (And.intro hch (And.intro hlv (And.intro hq1 (And.intro hq2 hq3)))))
      have HLN := Lib.hid hln
      clear ho hch hlv hq1 hq2 hq3 hln
      obtain ⟨wO, hwO⟩ : ∃ x, x = wr := ⟨_, rfl⟩
      subst hwO
      have HP1 := Lib.hid hp1
      clear hp1
      go_wp2_with fail
      go_loopg [4, 5] n (fun q kv iv w2 => ∃ (m : Int) (i : Nat), kv = .int .i64 m ∧ iv = .int .i64 (i : Int) ∧ i + q = n ∧ Hid (FqK L m i ∧ ∃ d, wO.drewN d = w2))
      case atStart => exact ⟨-1, 0, rfl, rfl, by omega, Lib.hid ⟨.inl ⟨rfl, fun j p hj _ => by omega⟩, 0, rfl⟩⟩
      case round =>
        obtain ⟨m, i, rfl, rfl, hi, HK⟩ := hrel
        obtain ⟨hk, d, rfl⟩ := HK.out
        clear HK
        have HI : Hid (∀ i p, L[i]? = some p → wO.cell? ⟨fb, i * 2, none⟩ = some (.int .i64 p.1)) := Lib.hid fun i p hp => (H2.out.2.2.2.1.cell (i * 2)).trans (H2.out.2.2.2.2.2 i p hp).1
        have HI1 : Hid (∀ i p, L[i]? = some p → wO.cell? ⟨fb, i * 2 + 1, none⟩ = some (.int .i64 (p.2 : Int))) := Lib.hid fun i p hp => (H2.out.2.2.2.1.cell (i * 2 + 1)).trans (H2.out.2.2.2.2.2 i p hp).2
        by_cases hlt2 : i < n
        · obtain ⟨p, hp⟩ : ∃ p, L[i]? = some p := ⟨_, List.getElem?_eq_getElem (by have := HLN.out; omega)⟩
          have c1 := HI.out i p hp
          by_cases h0 : 0 ≤ p.1
          · have g1 : decide (p.1 ≥ 0) = true := decide_eq_true h0
            rcases hk with ⟨rfl, hk⟩ | ⟨k, q, rfl, hki, hkq, hk0⟩
            · have HN := Lib.hid (FqK.take hp h0)
              clear hk hp
              go_wp2_with fail
              go_quiet (fail)
              go_wp2_with fail
              go_roundg (gk - 1)
              case measure => omega
              case rel => exact ⟨(i : Int), i + 1, rfl, by go_num, by omega, Lib.hid ⟨HN.out, _, rfl⟩⟩
            · have c2 := HI.out k q hkq
              have hkn : k < n := by omega
              by_cases h1 : p.1 < q.1
              · have g2 : decide (p.1 < q.1) = true := decide_eq_true h1
                have HN := Lib.hid (FqK.take hp h0)
                clear hkq hp
                go_wp2_with fail
                go_quiet (fail)
                go_wp2_with fail
                go_roundg (gk - 1)
                case measure => omega
                case rel => exact ⟨(i : Int), i + 1, rfl, by go_num, by omega, Lib.hid ⟨HN.out, _, rfl⟩⟩
              · have g2 : decide (p.1 < q.1) = false := decide_eq_false h1
                have HN := Lib.hid (FqK.skip (.inr ⟨k, q, rfl, hki, hkq, hk0⟩) hp (.inr (by omega)))
                clear hkq hp
                go_wp2_with fail
                go_quiet (fail)
                go_wp2_with fail
                go_roundg (gk - 1)
                case measure => omega
                case rel => exact ⟨(k : Int), i + 1, rfl, by go_num, by omega, Lib.hid ⟨HN.out, _, rfl⟩⟩
          · have g1 : decide (p.1 ≥ 0) = false := decide_eq_false h0
            have HN := Lib.hid (FqK.skip hk hp (.inl (by omega)))
            clear hk hp
            go_wp2_with fail
            go_quiet (fail)
            go_wp2_with fail
            go_roundg (gk - 1)
            case measure => omega
            case rel => exact ⟨m, i + 1, rfl, by go_num, by omega, Lib.hid ⟨HN.out, _, rfl⟩⟩
        · obtain rfl : i = n := by omega
          obtain ⟨k, q, rfl, hki, hkq, hk0⟩ : ∃ k q, m = ((k : Nat) : Int) ∧ k < i ∧ L[k]? = some q ∧ 0 ≤ q.1 := by
            rcases hk with ⟨_, h2⟩ | h2
            · obtain ⟨k, q, h3, h4⟩ := livesQ_find (L := L) (by have := H2.out.2.2.1; omega)
              have h5 := (List.getElem?_eq_some_iff.1 h3).1
              have := h2 k q (by have := HLN.out; omega) h3
              omega
            · exact h2
          have c2 := HI1.out k q hkq
          have hown : (wO.drewN d).ownsRow w.heap.size 70 1 (.slice Ao j co) j xs := H2.out.1
          have hsz : w.heap.size ≤ wO.heap.size := H2.out.2.1.size
          clear hk
          go_wp2_with (at_builtin; refine wpList_app_el _ rfl _ _ 40 rfl w.heap.size 70 (.int .i64 0) 1 8 Tryz.underlying40 rfault1_info rfl (by omega) _ j _ rfl (hown.alloc _) _ 1 [.int .i64 (q.2 : Int)] rfl rfl (Holds.new _ _ _) (by simp [Value.oneCell']) (by omega) (by omega) (by simp; omega) ?_)
          intro v1 w5 ho5 hg5 hn5
          have hfl5 : fb < w.heap.size := HP.out.2 _ rfl
          have hob : ∀ b, (Value.slice Ao j co).ownBlock = some b → w.heap.size ≤ b := fun b hb => (H2.out.1.lt b hb).1
          have hc5 : Chg w w5 (fun b => (Value.slice (some ⟨fb, 0, none⟩) i c).ownBlock = some b) := (((H2.out.2.1.drewN d).alloc _).trans (Chg.grown hg5) (fun b hb e => by have := hob b e.symm; omega))
          have hp5 := hc5.holds hpf HP.out.1
          have p5 := hp5.cell 2
          simp at p5
          have hq5 : Holds w5 fb tU cur := (Chg.grown hg5).holds (fun e => by have := hob fb e.symm; omega) (Holds.alloc (show Holds (wO.drewN d) fb tU cur from H2.out.2.2.2.1) _)
          have f5 := hq5.free (k * 2)
          have q5 := (hq5.cell (k * 2)).trans (H2.out.2.2.2.2.2 k q hkq).1
          have hv5 : v1.ownBlock ≠ some fb := fun e => by
            rcases hn5.old fb e with h | h
            · have := hob fb h; omega
            · simp at h; omega
          have hfq : FqAt w5 (some ⟨fb, 0, none⟩) L := .inr ⟨fb, cur, rfl, hq5, H2.out.2.2.2.2.1, H2.out.2.2.2.2.2⟩
          have HR : Hid ((w5.setCell ⟨fb, k * 2, none⟩ (.int .i64 (-1))).ownsRow w.heap.size 70 1 v1 (j + 1) (xs ++ [.int .i64 (q.2 : Int)]) ∧ Chg w (w5.setCell ⟨fb, k * 2, none⟩ (.int .i64 (-1))) (fun b => (Value.slice (some ⟨fb, 0, none⟩) i c).ownBlock = some b) ∧ FqAt (w5.setCell ⟨fb, k * 2, none⟩ (.int .i64 (-1))) (some ⟨fb, 0, none⟩) (L.set k (-1, q.2)) ∧ livesQ (L.set k (-1, q.2)) + (j + 1) = i ∧ (L.set k (-1, q.2)).length = i) := Lib.hid
            ⟨ownsRow_setCell_other ho5 hv5 _, Chg.step hc5 (fun b hb e => by subst e; rfl), hfq.set hkq, by have := livesQ_set hkq hk0 q.2; have := H2.out.2.2.1; omega, by rw [List.length_set]; exact HLN.out⟩
          clear hown ho5 hg5 hn5 hc5 hp5 hq5 hv5 hfq
          go_wp2_with fail
          go_roundg (i - (j + 1))
          case measure => omega
          case rel => exact ⟨j + 1, _, _, by omega, HR.out⟩
    · obtain rfl : j = n := by omega
      have HR := Lib.hid (And.intro ho hch)
      clear ho hch hq
      go_wp2_with fail
      go_ret
      exact ⟨_, xs, rfl, HR.out⟩
end
end Go.Proofs.YtmdbhdhfdldegaaGreatDoor
namespace Go.Proofs.YtmdbhdhfdldegaaGreatDoor
open Go.RowKit Go.Bd
theorem runP_end (s : Bs) : ∀ (n i : Nat) (st : Pst), s.length ≤ i → runP s n i st = st
  | 0, _, _, _ => rfl
  | n + 1, i, st, h => by
    unfold runP
    rw [if_neg (by omega)]
theorem fin8 {w wr w5 : World} {s : ByteArray} {st X : Pst} {B pb obk capk k g' j : Nat} {colk : Nat → Nat} {fvk : Value} {csk : Array Value} (hk : k < s.size)
    (HQ : w.heap.size = B ∧ w.heap.size + 1 = pb ∧ runP s.data.toList s.size 0 Pst.first = runP s.data.toList (g' + 1) k st ∧ Rd9 st k ∧ RSx wr B colk pb obk capk st.fs.length s st fvk csk ∧ Stay B (firstW8 w s) wr (colFirst8 B) colk)
    (hkq : s.size ≤ k + (g' + 1)) (hm : st.step s.data.toList k = (X, j)) (hq : RQ wr B colk pb s X w5) :
    s.size ≤ j + g' ∧ j ≤ s.size ∧ Hid (runP s.data.toList s.size 0 Pst.first = runP s.data.toList g' j X ∧ At8 (firstW8 w s) w5 (colFirst8 w.heap.size) w.heap.size (w.heap.size + 1) s X j) := by
  obtain ⟨hB, hpb, hrun, h9, hk1, hk2⟩ := HQ
  subst hpb
  subst hB
  have hl : s.data.toList.length = s.size := by simp
  have hst := h9.step (s := s.data.toList) (by omega)
  have e1 : X = (st.step s.data.toList k).1 := by rw [hm]
  have e2 : j = (st.step s.data.toList k).2 := by rw [hm]
  rw [e1] at hq
  have hA := At8.next hk h9 hk2 hq
  rw [e1, e2]
  refine ⟨by omega, by omega, Lib.hid ⟨?_, hA⟩⟩
  rw [hrun]
  show (if k < s.data.toList.length then _ else _) = _
  rw [if_pos (by omega)]
set_option maxRecDepth 100000 in
set_option maxHeartbeats 8000000 in
theorem rparse_any (s : ByteArray) (w : World) (hs : s.size ≤ 80000) :
    Calls Tryz.prog 17 #[.string s] w fun e w' => ∃ sv fv, e = .returned (.tuple #[sv, fv]) ∧ Below w.heap.size w w' ∧ Forest w' (fun b => w.heap.size ≤ b ∧ b < w'.heap.size) sv (spansOf s.data.toList) ∧ ∃ xs, w'.ownsRow w.heap.size 70 1 fv (faultsAt s.data.toList).length xs := by
  obtain ⟨t, htl⟩ : ∃ t, s.data.toList = t := ⟨_, rfl⟩
  have htn : t.length = s.size := by rw [← htl]; simp
  have HT := Lib.hid (And.intro htl htn)
  have HF := Lib.hid (rsFirst w s)
  clear htl htn
  go_enter Tryz.func17, Tryz.ntmps17
  go_wp2_with fail
  go_loopg [5, 6] s.size (fun q vi vn wr => ∃ (k : Nat) (st : Pst), vi = .int .i64 (k : Int) ∧ s.size ≤ k + q ∧ k ≤ s.size ∧ Hid (runP t s.size 0 Pst.first = runP t q k st ∧ At8 (firstW8 w s) wr (colFirst8 w.heap.size) w.heap.size (w.heap.size + 1) s st k))
  case atStart => exact ⟨0, Pst.first, rfl, by omega, by omega, Lib.hid ⟨rfl, ⟨⟨_, _, _, _, _, HF.out, Stay.refl _ _ _⟩, Rd9.first⟩⟩⟩
  case round =>
    obtain ⟨k, st, rfl, hkq, hks, HR⟩ := hrel
    obtain ⟨hrun, ⟨colk, obk, capk, fvk, csk, hk1, hk2⟩, h9⟩ := HR.out
    obtain ⟨B, hB⟩ : ∃ B, w.heap.size = B := ⟨_, rfl⟩
    obtain ⟨pb, hpb⟩ : ∃ pb, w.heap.size + 1 = pb := ⟨_, rfl⟩
    rw [hpb] at hk1
    rw [hB] at hk1 hk2
    (try rw [hpb])
    by_cases hlt : k < s.size
    · obtain ⟨g', hg'⟩ : ∃ g', gk = g' + 1 := ⟨gk - 1, by omega⟩
      have h8 := h9.eight
      have h17 := h9.inv.2.2.2
      have h1 := h9.inv.2.2.1
      have hstep := h9.step (s := t) (by have := HT.out.2; omega)
      have hla : lastK 6 st.fs < st.fs.length := by rcases lastK_lt 6 st.fs with h0 | h0 <;> omega
      have cl := rlast_any hk1 rfl (by omega) (by omega) 6
      have htk : t = s.data.toList := HT.out.1.symm
      subst htk
      have T1 : Hid (k + 1 < s.size → Calls Tryz.prog 37 #[.pointer (some ⟨pb, 0, none⟩), .string (s.extract (k + 1) (k + 2))] wr fun e w' => e = .returned (.tuple #[]) ∧ RQ wr B colk pb s (st.write [s.data.toList.getD (k + 1) 0]) w') := fun hk2' => by
        · rw [one_list8 s (k + 1) hk2']
          refine (text8_any hk1 h8 (by omega) [s.data.toList.getD (k + 1) 0] (by simp)).mono ?_
          rintro e w' ⟨rfl, col', cs', k1, k2⟩
          exact ⟨rfl, col', obk, capk, fvk, cs', k1, k2⟩
      have T3 : Hid (Calls Tryz.prog 37 #[.pointer (some ⟨pb, 0, none⟩), .string (s.extract k (k + 1))] wr fun e w' => e = .returned (.tuple #[]) ∧ RQ wr B colk pb s (st.write [s.data.toList.getD k 0]) w') := by
        rw [one_list8 s k hlt]
        refine (text8_any hk1 h8 (by omega) [s.data.toList.getD k 0] (by simp)).mono ?_
        rintro e w' ⟨rfl, col', cs', k1, k2⟩
        exact ⟨rfl, col', obk, capk, fvk, cs', k1, k2⟩
      have T2 : Hid (s[k].toNat = 93 → Calls Tryz.prog 37 #[.pointer (some ⟨pb, 0, none⟩), .string ⟨#[93]⟩] wr fun e w' => e = .returned (.tuple #[]) ∧ RQ wr B colk pb s (st.write [s.data.toList.getD k 0]) w') := fun h93 => by
        have e93 : s.data.toList.getD k 0 = 93 := by
          rw [getD_get8 s k hlt]
          exact UInt8.toNat_inj.1 h93
        rw [e93]
        refine (text8_any hk1 h8 (by omega) [93] (by simp)).mono ?_
        rintro e w' ⟨rfl, col', cs', k1, k2⟩
        exact ⟨rfl, col', obk, capk, fvk, cs', k1, k2⟩
      have O1 : Hid (Calls Tryz.prog 40 #[.pointer (some ⟨pb, 0, none⟩), .int .u8 6, .int .i64 (k : Int), .string ⟨#[94, 91]⟩] wr fun e w' => e = .returned (.tuple #[]) ∧ RQ wr B colk pb s (if st.room = true then st.begin 6 k [94, 91] else (st.write [94, 91]).tell k 7) w') := by
        exact ropens_any hk1 h8 (by omega) 6 k [94, 91] (by decide)
      have B1 := Lib.hid (rbetween_code hk1 h8 (by omega) hs)
      have B2 : Hid (k + 2 ≤ s.size → _) := fun h => rbetween_ref hk1 h8 h hs
      have B3 : Hid (k + 2 ≤ s.size → _) := fun h => rbetween_term hk1 h8 h hs p7
      have CL : Hid (0 < lastK 6 st.fs → Calls Tryz.prog 42 #[.pointer (some ⟨pb, 0, none⟩), .int .i64 (lastK 6 st.fs : Int)] wr fun e w' => e = .returned (.tuple #[]) ∧ RQ wr B colk pb s (st.fin (lastK 6 st.fs)) w') := fun h0 => by
        refine (rcloses_any hk1 h8.ok h8.kd k h8.inv (by omega) (lastK 6 st.fs) h0 hla).mono ?_
        rintro e w' ⟨rfl, col', fv', cs', k1, k2⟩
        exact ⟨rfl, col', obk, capk, fv', cs', k1, k2⟩
      have SY := rstyle_any hk1 h8 hlt hs _ rfl (fun h0 => h9.pos.at h0 (by rcases lastK_lt (if s[k].toNat = 95 then 2 else 1) st.fs with h5 | h5 <;> omega))
      have SY1 : Hid (s[k].toNat = 42 → Calls Tryz.prog 43 #[.pointer (some ⟨pb, 0, none⟩), .int .i64 (k : Int)] wr fun e w' => e = .returned (.tuple #[]) ∧ RQ wr B colk pb s (st.mark s.data.toList k 1) w') := fun h42 => by
        rw [if_neg (by omega)] at SY
        exact SY
      have SY2 : Hid (s[k].toNat = 95 → Calls Tryz.prog 43 #[.pointer (some ⟨pb, 0, none⟩), .int .i64 (k : Int)] wr fun e w' => e = .returned (.tuple #[]) ∧ RQ wr B colk pb s (st.mark s.data.toList k 2) w') := fun h95 => by
        rw [if_pos h95] at SY
        exact SY
      clear SY
      have HST : Hid (st.step s.data.toList k = if s[k].toNat = 92 ∧ k + 1 < s.size ∧ escB (s.data.toList.getD (k + 1) 0) = true then (st.write [s.data.toList.getD (k + 1) 0], k + 2)
        else if s[k].toNat = 96 then st.between s.data.toList k [96] [96] codeS
        else if List.isPrefixOf [60, 60] (s.data.toList.drop k) = true then st.between s.data.toList k [60, 60] [62, 62] refS
        else if List.isPrefixOf [40, 40] (s.data.toList.drop k) = true then st.between s.data.toList k [40, 40] [41, 41] termS
        else if List.isPrefixOf [94, 91] (s.data.toList.drop k) = true then (if st.room = true then st.begin 6 k [94, 91] else (st.write [94, 91]).tell k 7, k + 2)
        else if s[k].toNat = 93 ∧ 0 < lastK 6 st.fs then (st.fin (lastK 6 st.fs), k + 1)
        else if s[k].toNat = 42 then (st.mark s.data.toList k 1, k + 1)
        else if s[k].toNat = 95 then (st.mark s.data.toList k 2, k + 1)
        else (st.write [s.data.toList.getD k 0], k + 1)) := by
        have hl8 : s.data.toList.length = s.size := by simp
        have q : ∀ c : UInt8, (s[k] = c) = (s[k].toNat = c.toNat) := fun c => propext UInt8.toNat_inj.symm
        unfold Pst.step
        rw [getD_get8 s k hlt, hl8]
        simp only [q]
        rfl
      have C2 := fun w => rbegins_any s ⟨#[60, 60]⟩ k (by omega) (by omega) (by decide) (by decide) w
      have C3 := fun w => rbegins_any s ⟨#[40, 40]⟩ k (by omega) (by omega) (by decide) (by decide) w
      have C4 := fun w => rbegins_any s ⟨#[94, 91]⟩ k (by omega) (by omega) (by decide) (by decide) w
      have CE : ∀ (h : k + 1 < s.size) w, Calls Tryz.prog 35 #[.string ⟨#[42, 95, 60, 40, 94, 93, 92, 96]⟩, .int .u8 ((s[k + 1]'h).toNat : Int)] w fun e w' => e = .returned (.bool (escB (s.data.toList.getD (k + 1) 0))) ∧ w = w' := fun h w => by
        rw [getD_get8 s (k + 1) h]; exact ramong_any _ w
      have hp2 : List.isPrefixOf [60, 60] (s.data.toList.drop k) = true → k + 2 ≤ s.size := fun h => by
        have := List.IsPrefix.length_le (List.isPrefixOf_iff_prefix.1 h)
        simp at this; omega
      have hp3 : List.isPrefixOf [40, 40] (s.data.toList.drop k) = true → k + 2 ≤ s.size := fun h => by
        have := List.IsPrefix.length_le (List.isPrefixOf_iff_prefix.1 h)
        simp at this; omega
      have hb2 : begB s.data.toList k (⟨#[60, 60]⟩ : ByteArray).data.toList = List.isPrefixOf [60, 60] (s.data.toList.drop k) := rfl
      have hb3 : begB s.data.toList k (⟨#[40, 40]⟩ : ByteArray).data.toList = List.isPrefixOf [40, 40] (s.data.toList.drop k) := rfl
      have hb4 : begB s.data.toList k (⟨#[94, 91]⟩ : ByteArray).data.toList = List.isPrefixOf [94, 91] (s.data.toList.drop k) := rfl
      rw [hb2] at C2
      rw [hb3] at C3
      rw [hb4] at C4
      generalize List.isPrefixOf [60, 60] (s.data.toList.drop k) = b2 at C2 HST hp2
      generalize List.isPrefixOf [40, 40] (s.data.toList.drop k) = b3 at C3 HST hp3
      generalize List.isPrefixOf [94, 91] (s.data.toList.drop k) = b4 at C4 HST
      generalize escB (s.data.toList.getD (k + 1) 0) = esc at CE HST
      generalize lastK 6 st.fs = n at hla cl HST CL
      clear hb2 hb3 hb4
      have HQ := Lib.hid (And.intro hB (And.intro hpb (And.intro hg' (And.intro hrun (And.intro h9 (And.intro hk1 (And.intro hk2 hstep)))))))
      subst hg'
      have HQ8 := Lib.hid (And.intro hB (And.intro hpb (And.intro hrun (And.intro h9 (And.intro hk1 hk2)))))
      clear hB hpb hrun h9 hk1 hk2 hstep h8 HR
      go_wp2_with (first
        | (go_at_call 35; refine (CE (by omega) _).mono ?_; rintro e w' ⟨rfl, rfl⟩)
        | (go_at_call 39; (first | with_reducible refine (C2 _).mono ?_ | with_reducible refine (C3 _).mono ?_ | with_reducible refine (C4 _).mono ?_); rintro e w' ⟨rfl, rfl⟩)
        | (go_at_call 41; refine cl.mono ?_; rintro e w' ⟨rfl, rfl⟩)
        | fail)
      · refine (T1.out (by omega)).mono ?_
        have hm : st.step s.data.toList k = (st.write [s.data.toList.getD (k + 1) 0], k + 2) := by
          rw [HST.out]
          rw [if_pos ⟨by omega, by omega, ‹esc = true›⟩]
        rintro e w5 ⟨rfl, hq⟩
        have hf := fin8 hlt HQ8.out hkq hm hq
        have HFI := Lib.hid hf
        clear hq hm hf
        go_wp2
        rw [← HQ8.out.2.1]
        go_roundg g'
        case measure => omega
        case rel => exact ⟨_, _, by go_num, HFI.out.1, HFI.out.2.1, HFI.out.2.2⟩
      · refine (B2.out (by have := hp2 ‹b2 = true›; omega)).mono ?_
        have hm : st.step s.data.toList k = ((st.between s.data.toList k [60, 60] [62, 62] refS).1, (st.between s.data.toList k [60, 60] [62, 62] refS).2) := by
          rw [HST.out]
          rw [if_neg (fun h => absurd (h.2.2.symm.trans ‹esc = false›) (by decide)), if_neg (by omega), if_pos ‹b2 = true›]
        rintro e w5 ⟨rfl, hq⟩
        have hf := fin8 hlt HQ8.out hkq hm hq
        have HFI := Lib.hid hf
        clear hq hm hf
        go_wp2
        rw [← HQ8.out.2.1]
        go_roundg g'
        case measure => omega
        case rel => exact ⟨_, _, by go_num, HFI.out.1, HFI.out.2.1, HFI.out.2.2⟩
      · refine (B3.out (by have := hp3 ‹b3 = true›; omega)).mono ?_
        have hm : st.step s.data.toList k = ((st.between s.data.toList k [40, 40] [41, 41] termS).1, (st.between s.data.toList k [40, 40] [41, 41] termS).2) := by
          rw [HST.out]
          rw [if_neg (fun h => absurd (h.2.2.symm.trans ‹esc = false›) (by decide)), if_neg (by omega), if_neg (fun h => absurd (h.symm.trans ‹b2 = false›) (by decide)), if_pos ‹b3 = true›]
        rintro e w5 ⟨rfl, hq⟩
        have hf := fin8 hlt HQ8.out hkq hm hq
        have HFI := Lib.hid hf
        clear hq hm hf
        go_wp2
        rw [← HQ8.out.2.1]
        go_roundg g'
        case measure => omega
        case rel => exact ⟨_, _, by go_num, HFI.out.1, HFI.out.2.1, HFI.out.2.2⟩
      · refine (O1.out).mono ?_
        have hm : st.step s.data.toList k = ((if st.room = true then st.begin 6 k [94, 91] else (st.write [94, 91]).tell k 7), k + 2) := by
          rw [HST.out]
          rw [if_neg (fun h => absurd (h.2.2.symm.trans ‹esc = false›) (by decide)), if_neg (by omega), if_neg (fun h => absurd (h.symm.trans ‹b2 = false›) (by decide)), if_neg (fun h => absurd (h.symm.trans ‹b3 = false›) (by decide)), if_pos ‹b4 = true›]
        rintro e w5 ⟨rfl, hq⟩
        have hf := fin8 hlt HQ8.out hkq hm hq
        have HFI := Lib.hid hf
        clear hq hm hf
        go_wp2
        rw [← HQ8.out.2.1]
        go_roundg g'
        case measure => omega
        case rel => exact ⟨_, _, by go_num, HFI.out.1, HFI.out.2.1, HFI.out.2.2⟩
      · refine (T3.out).mono ?_
        have hm : st.step s.data.toList k = (st.write [s.data.toList.getD k 0], k + 1) := by
          rw [HST.out]
          rw [if_neg (fun h => absurd (h.2.2.symm.trans ‹esc = false›) (by decide)), if_neg (by omega), if_neg (fun h => absurd (h.symm.trans ‹b2 = false›) (by decide)), if_neg (fun h => absurd (h.symm.trans ‹b3 = false›) (by decide)), if_neg (fun h => absurd (h.symm.trans ‹b4 = false›) (by decide)), if_neg (by omega), if_neg (by omega), if_neg (by omega)]
        rintro e w5 ⟨rfl, hq⟩
        have hf := fin8 hlt HQ8.out hkq hm hq
        have HFI := Lib.hid hf
        clear hq hm hf
        go_wp2
        rw [← HQ8.out.2.1]
        go_roundg g'
        case measure => omega
        case rel => exact ⟨_, _, by go_num, HFI.out.1, HFI.out.2.1, HFI.out.2.2⟩
      · refine (B2.out (by have := hp2 ‹b2 = true›; omega)).mono ?_
        have hm : st.step s.data.toList k = ((st.between s.data.toList k [60, 60] [62, 62] refS).1, (st.between s.data.toList k [60, 60] [62, 62] refS).2) := by
          rw [HST.out]
          rw [if_neg (fun h => by omega), if_neg (by omega), if_pos ‹b2 = true›]
        rintro e w5 ⟨rfl, hq⟩
        have hf := fin8 hlt HQ8.out hkq hm hq
        have HFI := Lib.hid hf
        clear hq hm hf
        go_wp2
        rw [← HQ8.out.2.1]
        go_roundg g'
        case measure => omega
        case rel => exact ⟨_, _, by go_num, HFI.out.1, HFI.out.2.1, HFI.out.2.2⟩
      · refine (B3.out (by have := hp3 ‹b3 = true›; omega)).mono ?_
        have hm : st.step s.data.toList k = ((st.between s.data.toList k [40, 40] [41, 41] termS).1, (st.between s.data.toList k [40, 40] [41, 41] termS).2) := by
          rw [HST.out]
          rw [if_neg (fun h => by omega), if_neg (by omega), if_neg (fun h => absurd (h.symm.trans ‹b2 = false›) (by decide)), if_pos ‹b3 = true›]
        rintro e w5 ⟨rfl, hq⟩
        have hf := fin8 hlt HQ8.out hkq hm hq
        have HFI := Lib.hid hf
        clear hq hm hf
        go_wp2
        rw [← HQ8.out.2.1]
        go_roundg g'
        case measure => omega
        case rel => exact ⟨_, _, by go_num, HFI.out.1, HFI.out.2.1, HFI.out.2.2⟩
      · refine (O1.out).mono ?_
        have hm : st.step s.data.toList k = ((if st.room = true then st.begin 6 k [94, 91] else (st.write [94, 91]).tell k 7), k + 2) := by
          rw [HST.out]
          rw [if_neg (fun h => by omega), if_neg (by omega), if_neg (fun h => absurd (h.symm.trans ‹b2 = false›) (by decide)), if_neg (fun h => absurd (h.symm.trans ‹b3 = false›) (by decide)), if_pos ‹b4 = true›]
        rintro e w5 ⟨rfl, hq⟩
        have hf := fin8 hlt HQ8.out hkq hm hq
        have HFI := Lib.hid hf
        clear hq hm hf
        go_wp2
        rw [← HQ8.out.2.1]
        go_roundg g'
        case measure => omega
        case rel => exact ⟨_, _, by go_num, HFI.out.1, HFI.out.2.1, HFI.out.2.2⟩
      · refine (T3.out).mono ?_
        have hm : st.step s.data.toList k = (st.write [s.data.toList.getD k 0], k + 1) := by
          rw [HST.out]
          rw [if_neg (fun h => by omega), if_neg (by omega), if_neg (fun h => absurd (h.symm.trans ‹b2 = false›) (by decide)), if_neg (fun h => absurd (h.symm.trans ‹b3 = false›) (by decide)), if_neg (fun h => absurd (h.symm.trans ‹b4 = false›) (by decide)), if_neg (by omega), if_neg (by omega), if_neg (by omega)]
        rintro e w5 ⟨rfl, hq⟩
        have hf := fin8 hlt HQ8.out hkq hm hq
        have HFI := Lib.hid hf
        clear hq hm hf
        go_wp2
        rw [← HQ8.out.2.1]
        go_roundg g'
        case measure => omega
        case rel => exact ⟨_, _, by go_num, HFI.out.1, HFI.out.2.1, HFI.out.2.2⟩
      · refine (B1.out).mono ?_
        have hm : st.step s.data.toList k = ((st.between s.data.toList k [96] [96] codeS).1, (st.between s.data.toList k [96] [96] codeS).2) := by
          rw [HST.out]
          rw [if_neg (fun h => by omega), if_pos (by have := eq_of_beq ‹((s[k].toNat : Int) == 96) = true›; omega)]
        rintro e w5 ⟨rfl, hq⟩
        have hf := fin8 hlt HQ8.out hkq hm hq
        have HFI := Lib.hid hf
        clear hq hm hf
        go_wp2
        rw [← HQ8.out.2.1]
        go_roundg g'
        case measure => omega
        case rel => exact ⟨_, _, by go_num, HFI.out.1, HFI.out.2.1, HFI.out.2.2⟩
      · refine (B2.out (by have := hp2 ‹b2 = true›; omega)).mono ?_
        have hm : st.step s.data.toList k = ((st.between s.data.toList k [60, 60] [62, 62] refS).1, (st.between s.data.toList k [60, 60] [62, 62] refS).2) := by
          rw [HST.out]
          rw [if_neg (fun h => by omega), if_neg (fun h => ne_of_beq_false ‹((s[k].toNat : Int) == 96) = false› (by omega)), if_pos ‹b2 = true›]
        rintro e w5 ⟨rfl, hq⟩
        have hf := fin8 hlt HQ8.out hkq hm hq
        have HFI := Lib.hid hf
        clear hq hm hf
        go_wp2
        rw [← HQ8.out.2.1]
        go_roundg g'
        case measure => omega
        case rel => exact ⟨_, _, by go_num, HFI.out.1, HFI.out.2.1, HFI.out.2.2⟩
      · refine (B3.out (by have := hp3 ‹b3 = true›; omega)).mono ?_
        have hm : st.step s.data.toList k = ((st.between s.data.toList k [40, 40] [41, 41] termS).1, (st.between s.data.toList k [40, 40] [41, 41] termS).2) := by
          rw [HST.out]
          rw [if_neg (fun h => by omega), if_neg (fun h => ne_of_beq_false ‹((s[k].toNat : Int) == 96) = false› (by omega)), if_neg (fun h => absurd (h.symm.trans ‹b2 = false›) (by decide)), if_pos ‹b3 = true›]
        rintro e w5 ⟨rfl, hq⟩
        have hf := fin8 hlt HQ8.out hkq hm hq
        have HFI := Lib.hid hf
        clear hq hm hf
        go_wp2
        rw [← HQ8.out.2.1]
        go_roundg g'
        case measure => omega
        case rel => exact ⟨_, _, by go_num, HFI.out.1, HFI.out.2.1, HFI.out.2.2⟩
      · refine (O1.out).mono ?_
        have hm : st.step s.data.toList k = ((if st.room = true then st.begin 6 k [94, 91] else (st.write [94, 91]).tell k 7), k + 2) := by
          rw [HST.out]
          rw [if_neg (fun h => by omega), if_neg (fun h => ne_of_beq_false ‹((s[k].toNat : Int) == 96) = false› (by omega)), if_neg (fun h => absurd (h.symm.trans ‹b2 = false›) (by decide)), if_neg (fun h => absurd (h.symm.trans ‹b3 = false›) (by decide)), if_pos ‹b4 = true›]
        rintro e w5 ⟨rfl, hq⟩
        have hf := fin8 hlt HQ8.out hkq hm hq
        have HFI := Lib.hid hf
        clear hq hm hf
        go_wp2
        rw [← HQ8.out.2.1]
        go_roundg g'
        case measure => omega
        case rel => exact ⟨_, _, by go_num, HFI.out.1, HFI.out.2.1, HFI.out.2.2⟩
      · refine (CL.out (by omega)).mono ?_
        have hm : st.step s.data.toList k = (st.fin n, k + 1) := by
          rw [HST.out]
          rw [if_neg (fun h => by omega), if_neg (fun h => ne_of_beq_false ‹((s[k].toNat : Int) == 96) = false› (by omega)), if_neg (fun h => absurd (h.symm.trans ‹b2 = false›) (by decide)), if_neg (fun h => absurd (h.symm.trans ‹b3 = false›) (by decide)), if_neg (fun h => absurd (h.symm.trans ‹b4 = false›) (by decide)), if_pos ⟨by have := eq_of_beq ‹((s[k].toNat : Int) == 93) = true›; omega, by omega⟩]
        rintro e w5 ⟨rfl, hq⟩
        have hf := fin8 hlt HQ8.out hkq hm hq
        have HFI := Lib.hid hf
        clear hq hm hf
        go_wp2
        rw [← HQ8.out.2.1]
        go_roundg g'
        case measure => omega
        case rel => exact ⟨_, _, by go_num, HFI.out.1, HFI.out.2.1, HFI.out.2.2⟩
      · refine (T2.out (by have := eq_of_beq ‹((s[k].toNat : Int) == 93) = true›; omega)).mono ?_
        have hm : st.step s.data.toList k = (st.write [s.data.toList.getD k 0], k + 1) := by
          rw [HST.out]
          rw [if_neg (fun h => by omega), if_neg (fun h => ne_of_beq_false ‹((s[k].toNat : Int) == 96) = false› (by omega)), if_neg (fun h => absurd (h.symm.trans ‹b2 = false›) (by decide)), if_neg (fun h => absurd (h.symm.trans ‹b3 = false›) (by decide)), if_neg (fun h => absurd (h.symm.trans ‹b4 = false›) (by decide)), if_neg (fun h => by omega), if_neg (by have := eq_of_beq ‹((s[k].toNat : Int) == 93) = true›; omega), if_neg (by have := eq_of_beq ‹((s[k].toNat : Int) == 93) = true›; omega)]
        rintro e w5 ⟨rfl, hq⟩
        have hf := fin8 hlt HQ8.out hkq hm hq
        have HFI := Lib.hid hf
        clear hq hm hf
        go_wp2
        rw [← HQ8.out.2.1]
        go_roundg g'
        case measure => omega
        case rel => exact ⟨_, _, by go_num, HFI.out.1, HFI.out.2.1, HFI.out.2.2⟩
      · refine (SY1.out (by omega)).mono ?_
        have hm : st.step s.data.toList k = (st.mark s.data.toList k 1, k + 1) := by
          rw [HST.out]
          rw [if_neg (fun h => by omega), if_neg (fun h => ne_of_beq_false ‹((s[k].toNat : Int) == 96) = false› (by omega)), if_neg (fun h => absurd (h.symm.trans ‹b2 = false›) (by decide)), if_neg (fun h => absurd (h.symm.trans ‹b3 = false›) (by decide)), if_neg (fun h => absurd (h.symm.trans ‹b4 = false›) (by decide)), if_neg (fun h => ne_of_beq_false ‹((s[k].toNat : Int) == 93) = false› (by omega)), if_pos (by omega)]
        rintro e w5 ⟨rfl, hq⟩
        have hf := fin8 hlt HQ8.out hkq hm hq
        have HFI := Lib.hid hf
        clear hq hm hf
        go_wp2
        rw [← HQ8.out.2.1]
        go_roundg g'
        case measure => omega
        case rel => exact ⟨_, _, by go_num, HFI.out.1, HFI.out.2.1, HFI.out.2.2⟩
      · refine (SY2.out (by rcases ‹((s[k].toNat : Int) == 42) = true ∨ ((s[k].toNat : Int) == 95) = true› with h | h <;> (have := eq_of_beq h; omega))).mono ?_
        have hm : st.step s.data.toList k = (st.mark s.data.toList k 2, k + 1) := by
          rw [HST.out]
          rw [if_neg (fun h => by omega), if_neg (fun h => ne_of_beq_false ‹((s[k].toNat : Int) == 96) = false› (by omega)), if_neg (fun h => absurd (h.symm.trans ‹b2 = false›) (by decide)), if_neg (fun h => absurd (h.symm.trans ‹b3 = false›) (by decide)), if_neg (fun h => absurd (h.symm.trans ‹b4 = false›) (by decide)), if_neg (fun h => ne_of_beq_false ‹((s[k].toNat : Int) == 93) = false› (by omega)), if_neg (by omega), if_pos (by rcases ‹((s[k].toNat : Int) == 42) = true ∨ ((s[k].toNat : Int) == 95) = true› with h | h <;> (have := eq_of_beq h; omega))]
        rintro e w5 ⟨rfl, hq⟩
        have hf := fin8 hlt HQ8.out hkq hm hq
        have HFI := Lib.hid hf
        clear hq hm hf
        go_wp2
        rw [← HQ8.out.2.1]
        go_roundg g'
        case measure => omega
        case rel => exact ⟨_, _, by go_num, HFI.out.1, HFI.out.2.1, HFI.out.2.2⟩
      · refine (T3.out).mono ?_
        have hm : st.step s.data.toList k = (st.write [s.data.toList.getD k 0], k + 1) := by
          rw [HST.out]
          rw [if_neg (fun h => by omega), if_neg (fun h => ne_of_beq_false ‹((s[k].toNat : Int) == 96) = false› (by omega)), if_neg (fun h => absurd (h.symm.trans ‹b2 = false›) (by decide)), if_neg (fun h => absurd (h.symm.trans ‹b3 = false›) (by decide)), if_neg (fun h => absurd (h.symm.trans ‹b4 = false›) (by decide)), if_neg (fun h => ne_of_beq_false ‹((s[k].toNat : Int) == 93) = false› (by omega)), if_neg (by omega), if_neg (fun h => ne_of_beq_false ‹((s[k].toNat : Int) == 42) = false ∧ ((s[k].toNat : Int) == 95) = false›.2 (by omega))]
        rintro e w5 ⟨rfl, hq⟩
        have hf := fin8 hlt HQ8.out hkq hm hq
        have HFI := Lib.hid hf
        clear hq hm hf
        go_wp2
        rw [← HQ8.out.2.1]
        go_roundg g'
        case measure => omega
        case rel => exact ⟨_, _, by go_num, HFI.out.1, HFI.out.2.1, HFI.out.2.2⟩
    · obtain rfl : k = s.size := by omega
      have h17 := h9.inv.2.2.2
      have h1 := h9.inv.2.2.1
      obtain ⟨K, hK⟩ : ∃ K, st.fs.length - 1 = K := ⟨_, rfl⟩
      have hen : endP s.data.toList = st.dropN K := by
        unfold endP
        have e1 : s.data.toList.length = s.size := by simp
        rw [e1, HT.out.1, hrun, runP_end t gk s.size st (by have := HT.out.2; omega)]
        unfold Pst.drop
        rw [Nat.sub_zero, hK]
      have HE := Lib.hid hen
      have HS9 := Lib.hid (And.intro h9 (And.intro hk1 hk2))
      have hsB := hk1.hoB
      clear hen h9 hk1 hk2 hrun HR HT HF
      have HB := Lib.hid (And.intro hB hpb)
      clear hB hpb
      obtain ⟨wO, hwO⟩ : ∃ x, x = wr := ⟨_, rfl⟩
      subst hwO
      go_wp2_with fail
      go_loopg [] K (fun q w2 => ∃ m : Nat, m + q = K ∧ Hid (∃ colm fvm csm, RSx w2 B colm pb obk capk (st.dropN m).fs.length s (st.dropN m) fvm csm ∧ Stay B (firstW8 w s) w2 (colFirst8 B) colm))
      case atStart => exact ⟨0, by omega, Lib.hid ⟨_, _, _, HS9.out.2.1, HS9.out.2.2⟩⟩
      case round =>
        obtain ⟨m, hm, HS⟩ := hrel
        obtain ⟨colm, fvm, csm, hm1, hm2⟩ := HS.out
        obtain ⟨hIm, hlm⟩ := Inv.dropN m HS9.out.1.inv (by omega)
        have hlm2 : (st.dropN m).fs.length = gk + 1 := by omega
        have p1 := hm1.hp.cell 1
        simp at p1
        rw [hlm2] at p1
        clear HS
        by_cases hlt : 0 < gk
        · obtain ⟨f, g, r, hfs⟩ : ∃ f g r, (st.dropN m).fs = f :: g :: r := by
            match hq : (st.dropN m).fs, hlm2 with
            | f :: g :: r, _ => exact ⟨f, g, r, rfl⟩
            | [f], hq2 => simp at hq2; omega
            | [], hq2 => simp at hq2
          have hfl := rfails_any hm1 hfs (PstOk.dropN m HS9.out.1.ok) s.size hIm (by omega)
          rw [← dropN_last] at hfl
          have HFL := Lib.hid hfl
          have HK2 := Lib.hid hm2
          clear hfl hm1 hm2 hIm hfs
          go_wp2_with (go_at_call 44; refine HFL.out.mono ?_; rintro e W5 ⟨rfl, col5, fv5, cs5, h7, st7⟩; have H7 := Lib.hid (And.intro h7 (HK2.out.trans st7)); clear h7 st7)
          go_roundg (gk - 1)
          case measure => omega
          case rel => exact ⟨m + 1, by omega, Lib.hid ⟨_, _, _, H7.out.1, H7.out.2⟩⟩
        · obtain rfl : gk = 0 := by omega
          obtain rfl : m = K := by omega
          obtain ⟨f, hfs⟩ : ∃ f, (st.dropN m).fs = [f] := by
            match hq : (st.dropN m).fs, hlm2 with
            | [f], _ => exact ⟨f, rfl⟩
            | f :: g :: r, hq2 => simp at hq2
            | [], hq2 => simp at hq2
          have hso : spansOf s.data.toList = f.row.flush.sp := by
            unfold spansOf
            rw [HE.out, hfs]
          have hfo : faultsAt s.data.toList = (st.dropN m).faults := by
            unfold faultsAt
            rw [HE.out]
          have hfal : (st.dropN m).faults.length ≤ 1000000 := by have := hIm.2.1; omega
          have HSF := Lib.hid (And.intro hso hfo)
          obtain ⟨colp, sv, e0, e1, e2, e3, hp1, sp1, hF1⟩ := hm1.pop hfs
          have q3 := (hm1.ho.cell 3).trans e3
          have hso9 := rsorted_any hp1.drew hfal
          have HSO := Lib.hid hso9
          obtain ⟨As, ac, rfl, _, _⟩ := hF1.form
          have HPP := Lib.hid (And.intro hp1 (And.intro (hm2.trans sp1) hF1))
          have p1' : wr.cell? ⟨pb, 1, none⟩ = some (.slice (some ⟨obk, 0, none⟩) 1 capk) := p1
          have npb : ¬ fvm.ownBlock = some pb := fun e => by have a1 := hp1.cf _ e; have a2 := hp1.cp; omega
          have nob : ¬ fvm.ownBlock = some obk := fun e => by have a1 := hp1.cf _ e; have a2 := hp1.co; omega
          clear hso9 hp1 sp1 hF1 hm1 hm2 e0 e1 e2 e3 hIm hso hfo hfs p1
          go_wp2_with fail
          go_region_with (go_at_call 45; refine HSO.out.mono ?_; rintro e w4 ⟨v4, xs4, rfl, ho4, hc4⟩; have p14 := hc4.cell (p := ⟨pb, 1, none⟩) npb p1'; have q34 := hc4.cell (p := ⟨obk, 3, none⟩) nob q3; obtain ⟨A4, c4, rfl, _⟩ := own_slice2 ho4)
          all_goals (
            go_wp2
            go_ret2
            obtain ⟨hp1, st1, hF1⟩ := HPP.out
            obtain ⟨hso, hfo⟩ := HSF.out
            have hBz := HB.out.1
            have hfB : ∀ b, fvm.ownBlock = some b → B ≤ b ∧ b < wr.heap.size := fun b hb => hp1.hf.lt b hb
            have hb0 : Below w.heap.size w (firstW8 w s) := ((Below.refl _ _).alloc (Nat.le_refl _) _).alloc (by simp) _
            have hsz : wr.heap.size ≤ w4.heap.size := hc4.size
            have hBr : B ≤ wr.heap.size := by have h5 := hp1.hoB; have h6 := hp1.ho.lt; omega
            refine ⟨_, _, rfl, ?_, ?_, xs4, ?_⟩
            · rw [hBz] at hb0 ⊢
              exact (hb0.trans st1.1).trans (((Below.refl _ wr).drew).trans (hc4.toBelow hBr (fun b hb => (hfB b hb).1)))
            · rw [hso, hBz]
              exact hF1.chg (((Chg.refl wr _).drew).trans hc4 (fun _ _ h => h)) (fun b hb => ⟨hp1.ge4 hb, by have h5 := hp1.lt4 hb; omega⟩) (fun b hb e => by have h5 := hp1.cf b e; omega)
            · rw [hfo, hBz]
              exact own_mono ho4 hBr)
end Go.Proofs.YtmdbhdhfdldegaaGreatDoor
namespace Go.Bd
def asV : Sp ⊕ Nat → Value
  | .inl x => .tuple #[.agg #[.int .u8 (x.kind : Int), strV x.text, strV x.sub, strV x.see, .slice none 0 0], .int .i64 0]
  | .inr f => .tuple #[.agg #[.int .u8 0, strV [], strV [], strV [], .slice none 0 0], .int .i64 (f : Int)]
theorem results_row_tmp {P : Program} {fn : Func} {p u : Tmp} {ty : TypeId} (h : fn.results = #[.cell p ty, .tmp u]) (tmps : Array Value) (w : World) (g : Nat) (t : TypeId) (cs : Array Value) (fr : Nat × Nat) (d : TypeDesc)
    (hp : tmps.getD p undef = .pointer (some ⟨g, 0, none⟩)) (hg : w.heap[g]? = some (.cells cs t fr))
    (hu : P.underlying ty = some d) (hd : (match d with | .struct _ | .array _ _ => true | _ => false) = true) (hi : (P.info? ty).map (·.size) = some cs.size) :
    (results fn tmps).run P w = .ok (.tuple #[.agg cs, tmps.getD u undef]) w := by
  rw [results_cell_tmp h, hp]
  simp [asAddr, run_loadVar_row w g t ty cs fr d hg hu hd hi, Result.andThen]
theorem strV_bytes (s : ByteArray) : strV s.data.toList = .string s := by unfold strV; simp
end Go.Bd
namespace Go.Proofs.YtmdbhdhfdldegaaGreatDoor
open Go.RowKit Go.Bd
def AsOk (F : Nat) (af : Bs → Sp ⊕ Nat) : Prop := (∀ args w, Sem.run Tryz.prog (callFunc F args) w = .ok (.enter F args) w) ∧ ∀ (t : ByteArray) (w : World) (m : Int), t.size ≤ 100000 → w.cell? ⟨0, 0, none⟩ = some (.int .i64 m) →
  Calls Tryz.prog F #[.string t] w fun e w' => e = .returned (asV (af t.data.toList)) ∧ Below w.heap.size w w'
theorem span_size : (Tryz.prog.info? 32).map (·.size) = some 5 := by kernel_rfl
set_option maxRecDepth 100000 in
theorem code_any : AsOk 50 codeS := by
  refine ⟨fun args w => by kernel_rfl, ?_⟩
  intro t w m ht hm
  unfold codeS asV
  simp only [strV_bytes]
  unfold strV
  go_enter Tryz.func50, Tryz.ntmps50
  go_wp2
  (try simp only [Exit.inBlock, Exit.then])
  refine bodyPost_ret (results_row_tmp rfl _ _ w.heap.size _ _ _ _ rfl (heap_alloc_new w _) Tryz.underlying32 rfl span_size) rfl ?_
  exact ⟨rfl, (Below.refl _ _).alloc (Nat.le_refl _) _⟩
set_option maxRecDepth 100000 in
theorem ref_any : AsOk 52 refS := by
  refine ⟨fun args w => by kernel_rfl, ?_⟩
  intro t w m ht hm
  have HA : Hid (asV (refS t.data.toList) = if nameB t.data.toList = true then .tuple #[.agg #[.int .u8 4, .string t, .string ⟨#[]⟩, .string ⟨#[]⟩, .slice none 0 0], .int .i64 0] else .tuple #[.agg #[.int .u8 0, .string ⟨#[]⟩, .string ⟨#[]⟩, .string ⟨#[]⟩, .slice none 0 0], .int .i64 10]) := by
    show asV (refS t.data.toList) = _
    unfold refS
    split
    · unfold asV; simp only [strV_bytes]; rfl
    · rfl
  have cn2 := name_any t (w.alloc (.cells #[.int .u8 0, .string ⟨#[]⟩, .string ⟨#[]⟩, .string ⟨#[]⟩, .slice none 0 0] 32)) ht
  generalize nameB t.data.toList = b at cn2 HA
  go_enter Tryz.func52, Tryz.ntmps52
  go_wp2_with (first
    | (go_at_call 77; refine cn2.mono ?_; rintro e w' ⟨rfl, rfl⟩)
    | fail)
  · have hb : b = false := by simpa using ‹(!b) = true›
    rw [hb] at HA
    (try simp only [Exit.inBlock, Exit.then])
    refine bodyPost_ret (results_row_tmp rfl _ _ w.heap.size _ _ _ _ rfl (heap_alloc_new w _) Tryz.underlying32 rfl span_size) rfl ?_
    exact ⟨by rw [HA.out]; rfl, (Below.refl _ _).alloc (Nat.le_refl _) _⟩
  · have hb : b = true := by simpa using ‹(!b) = false›
    rw [hb] at HA
    (try simp only [Exit.inBlock, Exit.then])
    refine bodyPost_ret (results_row_tmp rfl _ _ w.heap.size _ _ _ _ rfl (heap_alloc_new w _) Tryz.underlying32 rfl span_size) rfl ?_
    exact ⟨by rw [HA.out]; rfl, (Below.refl _ _).alloc (Nat.le_refl _) _⟩
end Go.Proofs.YtmdbhdhfdldegaaGreatDoor
namespace Go.Proofs.YtmdbhdhfdldegaaGreatDoor
open Go.RowKit Go.Bd
section
variable {w : World} {B : Nat} {col : Nat → Nat} {pb ob cap len : Nat} {s : ByteArray} {st : Pst} {i : Nat} {fv : Value} {gb : Nat} {cs : Array Value} {gn : List Bs}
theorem psCell0 {w' : World} {col' : Nat → Nat} {m : Int} (h : Stay B w w' col col') (hB : 0 < B) (hm : w.cell? ⟨0, 0, none⟩ = some (.int .i64 m)) : w'.cell? ⟨0, 0, none⟩ = some (.int .i64 m) := (h.below.cell hB).trans hm
theorem Stay.cell {w' : World} {col' : Nat → Nat} (h : Stay B w w' col col') {g j : Nat} {v : Value} (hg : col g = 8) (hc : w.cell? ⟨g, j, none⟩ = some v) : w'.cell? ⟨g, j, none⟩ = some v :=
  (World.cell?_of_block (a := ⟨g, j, none⟩) (h.tree 8 g (.inr rfl) hg (World.block_lt_of_cell? w _ hc)).2).trans hc
set_option maxRecDepth 100000 in
set_option maxHeartbeats 1000000 in
theorem between_none (h : PSx Tryz.prog w B col pb ob cap len s st i fv gb cs gn) (hl : len = st.fs.length) (hI : Inv st i) (a b : ByteArray) (ha : 1 ≤ a.size) (ha2 : a.size ≤ 2) (hb : b.size ≤ 2) (hi : i + a.size ≤ s.size) (hs : s.size ≤ 100000) (F : Nat) (m : Int) (hm : w.cell? ⟨0, 0, none⟩ = some (.int .i64 m))
    (hn : nextAt s.data.toList (i + a.size) b.data.toList = none) :
    Calls Tryz.prog 49 #[.pointer (some ⟨pb, 0, none⟩), .int .i64 (i : Int), .string a, .string b, .func (.func F) #[] #[]] w fun e w' => e = .returned (.int .i64 ((i + a.size : Nat) : Int)) ∧
      ∃ col' fv' cs' gn', PSx Tryz.prog w' B col' pb ob cap len s ((st.write a.data.toList).tell i 7) (i + a.size) fv' gb cs' gn' ∧ Stay B w w' col col' := by
  obtain ⟨f, r, hfs⟩ : ∃ f r, st.fs = f :: r := by
    match hq : st.fs, hI.2.2.1 with
    | f :: r, _ => exact ⟨f, r, rfl⟩
    | [], hq2 => simp at hq2
  have hr : st.fs.length = r.length + 1 := by rw [hfs]; rfl
  have hwt : wtF f + wtFs r ≤ i := by
    have := hI.1
    rw [hfs, wtFs_cons] at this
    exact this
  have hftx : f.row.tx.length ≤ 100000 := by unfold wtF wtR at hwt; omega
  have hr17 : r.length ≤ 17 := by have := hI.2.2.2; omega
  have hflt : st.faults.length ≤ 10000000 := by have := hI.2.1; omega
  have cN := next_any h (i := i + a.size) (by omega) hi hs b (by omega) m hm
  rw [hn] at cN
  have e1 : IntKind.i64.wrap ((i : Int) + (a.size : Int)) = ((i + a.size : Nat) : Int) := by
    rw [← Int.natCast_add]; exact IntWalk.i64_in _ (by omega)
  have HFS := Lib.hid hfs
  have HL : Hid (len = r.length + 1) := hl.trans hr
  clear h hfs hl hr hwt hI hn
  go_enter Tryz.func49, Tryz.ntmps49
  go_wp2_with fail
  refine cN.mono ?_
  clear cN
  rintro e w1 ⟨rfl, gn1, h1, st1⟩
  have H1 := Lib.hid h1
  have ST1 := Lib.hid st1
  clear h1 st1
  unfold nextV
  go_wp2_with fail
  refine (top_any (n := r.length) (by rw [← HL.out]; exact H1.out) (by omega)).mono ?_
  rintro e w2 ⟨rfl, kk, rfl⟩
  go_wp2_with fail
  refine (writeTop_any (PSx.drewN H1.out kk) HFS.out a (by omega) (by omega)).mono ?_
  rintro e w3 ⟨rfl, col3, cs3, h3, st3⟩
  have H3 := Lib.hid h3
  have ST3 := Lib.hid st3
  clear h3 st3
  go_wp2_with fail
  refine (tell_any H3.out i 7 hflt).mono ?_
  rintro e w4 ⟨rfl, col4, fv4, h4, st4⟩
  have H4 := Lib.hid h4
  have ST4 := Lib.hid st4
  clear h4 st4
  go_wp2
  go_ret
  exact ⟨rfl, col4, fv4, cs3, gn1, H4.out, (ST1.out.trans ST3.out.undrew).trans ST4.out⟩
end
end Go.Proofs.YtmdbhdhfdldegaaGreatDoor
namespace Go.Proofs.YtmdbhdhfdldegaaGreatDoor
open Go.RowKit Go.Bd
section
variable {w : World} {B : Nat} {col : Nat → Nat} {pb ob cap len : Nat} {s : ByteArray} {st : Pst} {i : Nat} {fv : Value} {gb : Nat} {cs : Array Value} {gn : List Bs}
theorem cut_list (s : ByteArray) (i j : Nat) : (s.extract i j).data.toList = (s.data.toList.drop i).take (j - i) := by
  simp only [ByteArray.data_extract, Array.toList_extract, List.extract_eq_take_drop]
def spAgg : Sp ⊕ Nat → Value
  | .inl x => .agg #[.int .u8 (x.kind : Int), strV x.text, strV x.sub, strV x.see, .slice none 0 0]
  | .inr _ => .agg #[.int .u8 0, strV [], strV [], strV [], .slice none 0 0]
set_option maxRecDepth 100000 in
set_option maxHeartbeats 2000000 in
theorem between_bad (h : PSx Tryz.prog w B col pb ob cap len s st i fv gb cs gn) (hl : len = st.fs.length) (hI : Inv st i) (a b : ByteArray) (ha : 1 ≤ a.size) (ha2 : a.size ≤ 2) (hb : b.size ≤ 2) (hi : i + a.size ≤ s.size) (hs : s.size ≤ 100000) (F : Nat) (m : Int) (hm : w.cell? ⟨0, 0, none⟩ = some (.int .i64 m)) (hB : 0 < B)
    {n : Nat} (hn : nextAt s.data.toList (i + a.size) b.data.toList = some n) (hnb : n + b.size ≤ s.size) {af : Bs → Sp ⊕ Nat} (hF : AsOk F af) {fc : Nat} (haf : af ((s.data.toList.drop (i + a.size)).take (n - (i + a.size))) = .inr fc) (hfc : 1 ≤ fc) :
    Calls Tryz.prog 49 #[.pointer (some ⟨pb, 0, none⟩), .int .i64 (i : Int), .string a, .string b, .func (.func F) #[] #[]] w fun e w' => e = .returned (.int .i64 ((n + b.size : Nat) : Int)) ∧
      ∃ col' fv' cs' gn', PSx Tryz.prog w' B col' pb ob cap len s ((st.write ((s.data.toList.drop i).take (n + b.size - i))).tell i fc) (n + b.size) fv' gb cs' gn' ∧ Stay B w w' col col' := by
  obtain ⟨f, r, hfs⟩ : ∃ f r, st.fs = f :: r := by
    match hq : st.fs, hI.2.2.1 with
    | f :: r, _ => exact ⟨f, r, rfl⟩
    | [], hq2 => simp at hq2
  have hr : st.fs.length = r.length + 1 := by rw [hfs]; rfl
  have hwt : wtF f + wtFs r ≤ i := by
    have := hI.1
    rw [hfs, wtFs_cons] at this
    exact this
  have hftx : f.row.tx.length ≤ 100000 := by unfold wtF wtR at hwt; omega
  have hr17 : r.length ≤ 17 := by have := hI.2.2.2; omega
  have hflt : st.faults.length ≤ 10000000 := by have := hI.2.1; omega
  have cN := next_any h (i := i + a.size) (by omega) hi hs b (by omega) m hm
  rw [hn] at cN
  have hge := nextAt_le hn
  have e1 : IntKind.i64.wrap ((i : Int) + (a.size : Int)) = ((i + a.size : Nat) : Int) := by
    rw [← Int.natCast_add]; exact IntWalk.i64_in _ (by omega)
  have e2 : IntKind.i64.wrap ((n : Int) + (b.size : Int)) = ((n + b.size : Nat) : Int) := by
    rw [← Int.natCast_add]; exact IntWalk.i64_in _ (by omega)
  have HAF : Hid (∀ w : World, w.cell? ⟨0, 0, none⟩ = some (.int .i64 m) → Calls Tryz.prog F #[.string (s.extract (i + a.size) n)] w fun e w' => e = .returned (.tuple #[.agg #[.int .u8 0, .string ⟨#[]⟩, .string ⟨#[]⟩, .string ⟨#[]⟩, .slice none 0 0], .int .i64 (fc : Int)]) ∧ Below w.heap.size w w') := fun w hm => by
    have := hF.2 (s.extract (i + a.size) n) w m (by simp; omega) hm
    rw [cut_list, haf] at this
    exact this
  have HEN := Lib.hid hF.1
  have HFS := Lib.hid hfs
  have HL : Hid (len = r.length + 1) := hl.trans hr
  clear h hfs hl hr hwt hI hn haf hF
  go_enter Tryz.func49, Tryz.ntmps49
  go_wp2_with fail
  refine cN.mono ?_
  clear cN
  rintro e w1 ⟨rfl, gn1, h1, st1⟩
  have H1 := Lib.hid h1
  have ST1 := Lib.hid st1
  have c0 := h1.hp.cell 0
  have hm1 := psCell0 st1 hB hm
  clear h1 st1
  unfold nextV
  go_wp2_with fail
  rw [HEN.out, Oper.upon_enter]
  refine (HAF.out _ hm1).mono ?_
  rintro e w2 ⟨rfl, hb2⟩
  have hch := (Chg.below hb2 (fun _ => False)).alloc (.cells #[.int .u8 0, .string ⟨#[]⟩, .string ⟨#[]⟩, .string ⟨#[]⟩, .slice none 0 0] 32)
  have h2 := H1.out.keep hch (fun _ h => h.elim)
  have HP2 := Lib.hid h2
  have d0 := h2.hp.cell 0
  have HPD := Lib.hid (fun k => PSx.drewN h2 k)
  have ST2 : Hid (Stay B w1 (w2.alloc (.cells #[.int .u8 0, .string ⟨#[]⟩, .string ⟨#[]⟩, .string ⟨#[]⟩, .slice none 0 0] 32)) col col) :=
    Lib.hid ⟨hch.toBelow (psBase H1.out) (fun _ h => h.elim), fun c k _ hk hl => ⟨hk, hch.block k hl (fun h => h)⟩⟩
  clear hb2 h2 hch
  have q1 : (0 : Int) ≤ (n : Int) + (b.size : Int) := by omega
  have q2 : (n : Int) + (b.size : Int) ≤ (s.size : Int) := by omega
  have q3 : (i : Int) ≤ (n : Int) + (b.size : Int) := by omega
  have q4 : ((n : Int) + (b.size : Int)).toNat = n + b.size := by omega
  go_wp2
  refine wp_region_held_drew (S := (fun w' => w'.cell? ⟨pb, 0, none⟩ = some (.string s))) (by kernel_rfl) ?_ (fun hHeld0 => ?_)
  · (try dsimp only)
    first | exact d0 | exact z0
  refine wpAnyH_take (i := 0) (v := ?_) rfl (by kernel_rfl) (by kernel_rfl) (by kernel_rfl) (fun _ _ _ h => h) (Or.inl ⟨by kernel_rfl, ?_⟩) (by assumption) ?_
  rotate_left
  · (intro w hSw; (try dsimp only at hSw); go_simp; (first | done | with_reducible rfl))
  (try simp only [Act.put, List.setIfInBounds_toArray, List.set_cons_zero, List.set_cons_succ])
  refine wpAnyH_take (i := 4) (v := ?_) rfl (by kernel_rfl) (by kernel_rfl) (by kernel_rfl) (fun _ _ _ h => h) (Or.inl ⟨by kernel_rfl, ?_⟩) (by assumption) ?_
  rotate_left
  · (intro w hSw; (try dsimp only at hSw); go_simp; (first | done | with_reducible rfl))
  (try simp only [Act.put, List.setIfInBounds_toArray, List.set_cons_zero, List.set_cons_succ])
  refine wpAnyH_take (i := 5) (v := ?_) rfl (by kernel_rfl) (by kernel_rfl) (by kernel_rfl) (fun _ _ _ h => h) (Or.inl ⟨by kernel_rfl, ?_⟩) (by assumption) ?_
  rotate_left
  · (intro w hSw; (try dsimp only at hSw); go_simp; (first | done | with_reducible rfl))
  (try simp only [Act.put, List.setIfInBounds_toArray, List.set_cons_zero, List.set_cons_succ])
  refine wpAnyH_take (i := 6) (v := ?_) rfl (by kernel_rfl) (by kernel_rfl) (by kernel_rfl) (fun _ _ _ h => h) (Or.inl ⟨by kernel_rfl, ?_⟩) (by assumption) ?_
  rotate_left
  · (intro w hSw; (try dsimp only at hSw); go_simp; (first | done | with_reducible rfl))
  (try simp only [Act.put, List.setIfInBounds_toArray, List.set_cons_zero, List.set_cons_succ])
  refine wpAnyH_take (i := 7) (v := ?_) rfl (by kernel_rfl) (by kernel_rfl) (by kernel_rfl) (fun _ _ _ h => h) (Or.inl ⟨by kernel_rfl, ?_⟩) (by assumption) ?_
  rotate_left
  · (intro w hSw; (try dsimp only at hSw); go_simp; (first | done | with_reducible rfl))
  (try simp only [Act.put, List.setIfInBounds_toArray, List.set_cons_zero, List.set_cons_succ])
  refine wpAnyH_take (i := 8) (v := ?_) rfl (by kernel_rfl) (by kernel_rfl) (by kernel_rfl) (fun _ _ _ h => h) (Or.inl ⟨by kernel_rfl, ?_⟩) (by assumption) ?_
  rotate_left
  · (intro w hSw; (try dsimp only at hSw); go_simp; (first | done | with_reducible rfl))
  (try simp only [Act.put, List.setIfInBounds_toArray, List.set_cons_zero, List.set_cons_succ])
  refine wpAnyH_take (i := 9) (v := ?_) rfl (by kernel_rfl) (by kernel_rfl) (by kernel_rfl) (fun _ _ _ h => h) (Or.inl ⟨by kernel_rfl, ?_⟩) (by assumption) ?_
  rotate_left
  · (intro w hSw; (try dsimp only at hSw); go_simp; (first | done | with_reducible rfl))
  (try simp only [Act.put, List.setIfInBounds_toArray, List.set_cons_zero, List.set_cons_succ])
  refine wpAnyH_take (i := 10) (v := ?_) rfl (by kernel_rfl) (by kernel_rfl) (by kernel_rfl) (fun _ _ _ h => h) (Or.inl ⟨by kernel_rfl, ?_⟩) (by assumption) ?_
  rotate_left
  · (intro w hSw; (try dsimp only at hSw); go_simp; (first | done | with_reducible rfl))
  (try simp only [Act.put, List.setIfInBounds_toArray, List.set_cons_zero, List.set_cons_succ])
  refine wpAnyH_ready (rs := [1]) (by kernel_rfl) (by simp) ?_
  refine AllReadyH.cons rfl (fun K hK => ?_) AllReadyH.nil
  go_simp
  refine (top_any (n := r.length) (by rw [← HL.out]; exact HPD.out _) (by omega)).mono ?_
  rintro e w3 ⟨rfl, kk, rfl⟩
  go_wp2_with fail
  refine hK.out _ _ ?_ (fun hHeld1 => ?_)
  · (try dsimp only)
    first | exact d0 | exact z0
  clear hK K hHeld0
  (try simp only [Act.put, List.setIfInBounds_toArray, List.set_cons_zero, List.set_cons_succ])
  refine wpAnyH_take (i := 2) (v := ?_) rfl (by kernel_rfl) (by kernel_rfl) (by kernel_rfl) (fun _ _ _ h => h) (Or.inl ⟨by kernel_rfl, ?_⟩) (by assumption) ?_
  rotate_left
  · (intro w hSw; (try dsimp only at hSw); go_simp; (first | done | with_reducible rfl))
  (try simp only [Act.put, List.setIfInBounds_toArray, List.set_cons_zero, List.set_cons_succ])
  refine wpAnyH_take (i := 3) (v := ?_) rfl (by kernel_rfl) (by kernel_rfl) (by kernel_rfl) (fun _ _ _ h => h) (Or.inl ⟨by kernel_rfl, ?_⟩) (by assumption) ?_
  rotate_left
  · (intro w hSw; (try dsimp only at hSw); go_simp; (first | done | with_reducible rfl))
  (try simp only [Act.put, List.setIfInBounds_toArray, List.set_cons_zero, List.set_cons_succ])
  refine wpAnyH_ready (rs := [11]) (by kernel_rfl) (by simp) ?_
  refine AllReadyH.cons rfl (fun K hK => ?_) AllReadyH.nil
  go_simp
  refine (writeTop_any (HPD.out _) HFS.out (s.extract i (n + b.size)) (by simp; omega) (by omega)).mono ?_
  rintro e w4 ⟨rfl, col4, cs4, h4, st4⟩
  have st5 := st4.undrew
  have H4 := Lib.hid h4
  have ST4 := Lib.hid st5
  have z0 := h4.hp.cell 0
  clear h4 st4 st5
  go_wp2_with fail
  refine hK.out _ _ ?_ (fun hHeld2 => ?_)
  · (try dsimp only)
    first | exact d0 | exact z0
  clear hK K hHeld1
  (try simp only [Act.put, List.setIfInBounds_toArray, List.set_cons_zero, List.set_cons_succ])
  refine wpAnyH_done (by kernel_rfl) ?_ _
  go_wp2_with fail
  refine (tell_any H4.out i fc hflt).mono ?_
  rintro e w5 ⟨rfl, col5, fv5, h5, st5⟩
  go_wp2
  go_ret
  rw [cut_list] at h5
  exact ⟨rfl, col5, fv5, cs4, gn1, h5.on (by omega), ((ST1.out.trans ST2.out).trans ST4.out).trans st5⟩
end
end Go.Proofs.YtmdbhdhfdldegaaGreatDoor
namespace Go.Proofs.YtmdbhdhfdldegaaGreatDoor
open Go.RowKit Go.Bd
section
variable {w : World} {B : Nat} {col : Nat → Nat} {pb ob cap len : Nat} {s : ByteArray} {st : Pst} {i : Nat} {fv : Value} {gb : Nat} {cs : Array Value} {gn : List Bs}
set_option maxRecDepth 100000 in
set_option maxHeartbeats 2000000 in
theorem between_good (h : PSx Tryz.prog w B col pb ob cap len s st i fv gb cs gn) (hl : len = st.fs.length) (hI : Inv st i) (a b : ByteArray) (ha : 1 ≤ a.size) (ha2 : a.size ≤ 2) (hb : b.size ≤ 2) (hi : i + a.size ≤ s.size) (hs : s.size ≤ 100000) (F : Nat) (m : Int) (hm : w.cell? ⟨0, 0, none⟩ = some (.int .i64 m)) (hB : 0 < B)
    {n : Nat} (hn : nextAt s.data.toList (i + a.size) b.data.toList = some n) (hnb : n + b.size ≤ s.size) {af : Bs → Sp ⊕ Nat} (hF : AsOk F af) {x : Sp} (haf : af ((s.data.toList.drop (i + a.size)).take (n - (i + a.size))) = .inl x) (hk0 : x.kids = []) (hxt : x.kind = 0 → x.text.length ≤ 1000000) :
    Calls Tryz.prog 49 #[.pointer (some ⟨pb, 0, none⟩), .int .i64 (i : Int), .string a, .string b, .func (.func F) #[] #[]] w fun e w' => e = .returned (.int .i64 ((n + b.size : Nat) : Int)) ∧
      ∃ col' fv' cs' gn', PSx Tryz.prog w' B col' pb ob cap len s (st.top (·.add x)) (n + b.size) fv' gb cs' gn' ∧ Stay B w w' col col' := by
  obtain ⟨f, r, hfs⟩ : ∃ f r, st.fs = f :: r := by
    match hq : st.fs, hI.2.2.1 with
    | f :: r, _ => exact ⟨f, r, rfl⟩
    | [], hq2 => simp at hq2
  have hr : st.fs.length = r.length + 1 := by rw [hfs]; rfl
  have hwt : wtF f + wtFs r ≤ i := by
    have := hI.1
    rw [hfs, wtFs_cons] at this
    exact this
  have hftx : f.row.tx.length ≤ 100000 := by unfold wtF wtR at hwt; omega
  have hfsp : f.row.sp.length ≤ 100000 := by have := wtL_len f.row.sp; unfold wtF wtR at hwt; omega
  have hr17 : r.length ≤ 17 := by have := hI.2.2.2; omega
  have hflt : st.faults.length ≤ 10000000 := by have := hI.2.1; omega
  have cN := next_any h (i := i + a.size) (by omega) hi hs b (by omega) m hm
  rw [hn] at cN
  have hge := nextAt_le hn
  have e1 : IntKind.i64.wrap ((i : Int) + (a.size : Int)) = ((i + a.size : Nat) : Int) := by
    rw [← Int.natCast_add]; exact IntWalk.i64_in _ (by omega)
  have e2 : IntKind.i64.wrap ((n : Int) + (b.size : Int)) = ((n + b.size : Nat) : Int) := by
    rw [← Int.natCast_add]; exact IntWalk.i64_in _ (by omega)
  have HAF : Hid (∀ w : World, w.cell? ⟨0, 0, none⟩ = some (.int .i64 m) → Calls Tryz.prog F #[.string (s.extract (i + a.size) n)] w fun e w' => e = .returned (.tuple #[.agg #[.int .u8 (x.kind : Int), strV x.text, strV x.sub, strV x.see, .slice none 0 0], .int .i64 0]) ∧ Below w.heap.size w w') := fun w hm => by
    have := hF.2 (s.extract (i + a.size) n) w m (by simp; omega) hm
    rw [cut_list, haf] at this
    exact this
  have HEN := Lib.hid hF.1
  have HFS := Lib.hid hfs
  have HL : Hid (len = r.length + 1) := hl.trans hr
  clear h hfs hl hr hwt hI hn haf hF
  go_enter Tryz.func49, Tryz.ntmps49
  go_wp2_with fail
  refine cN.mono ?_
  clear cN
  rintro e w1 ⟨rfl, gn1, h1, st1⟩
  have H1 := Lib.hid h1
  have ST1 := Lib.hid st1
  have c0 := h1.hp.cell 0
  have hm1 := psCell0 st1 hB hm
  clear h1 st1
  unfold nextV
  go_wp2_with fail
  rw [HEN.out, Oper.upon_enter]
  refine (HAF.out _ hm1).mono ?_
  rintro e w2 ⟨rfl, hb2⟩
  unfold strV
  have hch := Chg.below hb2 (fun _ => False)
  have h2 := H1.out.keep hch (fun _ h => h.elim)
  have st2 : Stay B w1 w2 col col := ⟨hch.toBelow (psBase H1.out) (fun _ h => h.elim), fun c k _ hk hl => ⟨hk, hch.block k hl (fun h => h)⟩⟩
  obtain ⟨colL, hL, stL, h8, _⟩ := h2.local (.cells #[.int .u8 (x.kind : Int), .string ⟨x.text.toArray⟩, .string ⟨x.sub.toArray⟩, .string ⟨x.see.toArray⟩, .slice none 0 0] 32)
  have hX := Holds.new w2 32 #[.int .u8 (x.kind : Int), .string ⟨x.text.toArray⟩, .string ⟨x.sub.toArray⟩, .string ⟨x.see.toArray⟩, .slice none 0 0]
  have HX := Lib.hid hX
  have HPD := Lib.hid (fun k => PSx.drewN hL k)
  have ST2 := Lib.hid (st2.trans stL)
  have HK0 := Lib.hid hk0
  have H8 := Lib.hid h8
  clear hb2 h2 hch hL stL st2 h8 hk0
  go_wp2
  refine wp_region_held_drew (S := (fun w' => w'.cell? ⟨w2.heap.size, 0, none⟩ = some (.int .u8 (x.kind : Int)) ∧ w'.cell? ⟨w2.heap.size, 1, none⟩ = some (.string ⟨x.text.toArray⟩) ∧ w'.cell? ⟨w2.heap.size, 2, none⟩ = some (.string ⟨x.sub.toArray⟩) ∧ w'.cell? ⟨w2.heap.size, 3, none⟩ = some (.string ⟨x.see.toArray⟩) ∧ w'.cell? ⟨w2.heap.size, 4, none⟩ = some (.slice none 0 0))) (by kernel_rfl) ?_ (fun hHeld0 => ?_)
  · (try dsimp only)
    first | exact cells5 hX | exact cells5 hX.drew | exact cells5 (hX.drewN _) | exact cells5 hX2
  refine wpAnyH_take (i := 0) (v := ?_) rfl (by kernel_rfl) (by kernel_rfl) (by kernel_rfl) (fun _ _ _ h => h) (Or.inl ⟨by kernel_rfl, ?_⟩) (by assumption) ?_
  rotate_left
  · (intro w hSw; (try dsimp only at hSw); go_simp; (first | done | with_reducible rfl))
  (try simp only [Act.put, List.setIfInBounds_toArray, List.set_cons_zero, List.set_cons_succ])
  refine wpAnyH_take (i := 4) (v := ?_) rfl (by kernel_rfl) (by kernel_rfl) (by kernel_rfl) (fun _ _ _ h => h) (Or.inl ⟨by kernel_rfl, ?_⟩) (by assumption) ?_
  rotate_left
  · (intro w hSw; (try dsimp only at hSw); go_simp; (first | done | with_reducible rfl))
  (try simp only [Act.put, List.setIfInBounds_toArray, List.set_cons_zero, List.set_cons_succ])
  refine wpAnyH_ready (rs := [1]) (by kernel_rfl) (by simp) ?_
  refine AllReadyH.cons rfl (fun K hK => ?_) AllReadyH.nil
  go_simp
  refine (top_any (n := r.length) (by rw [← HL.out]; exact HPD.out _) (by omega)).mono ?_
  rintro e w3 ⟨rfl, kk, rfl⟩
  go_wp2_with fail
  refine hK.out _ _ ?_ (fun hHeld1 => ?_)
  · (try dsimp only)
    first | exact cells5 hX | exact cells5 hX.drew | exact cells5 (hX.drewN _) | exact cells5 hX2
  clear hK K hHeld0
  (try simp only [Act.put, List.setIfInBounds_toArray, List.set_cons_zero, List.set_cons_succ])
  refine wpAnyH_take (i := 2) (v := ?_) rfl (by kernel_rfl) (by kernel_rfl) (by kernel_rfl) (fun _ _ _ h => h) (Or.inl ⟨by kernel_rfl, ?_⟩) (by assumption) ?_
  rotate_left
  · (intro w hSw; (try dsimp only at hSw); go_simp; (first | done | with_reducible rfl))
  (try simp only [Act.put, List.setIfInBounds_toArray, List.set_cons_zero, List.set_cons_succ])
  refine wpAnyH_take (i := 3) (v := ?_) rfl (by kernel_rfl) (by kernel_rfl) (by kernel_rfl) (fun _ _ _ h => h) (Or.inl ⟨by kernel_rfl, ?_⟩) (by assumption) ?_
  rotate_left
  · (intro w hSw; (try dsimp only at hSw); go_simp; (first | done | with_reducible rfl))
  (try simp only [Act.put, List.setIfInBounds_toArray, List.set_cons_zero, List.set_cons_succ])
  refine wpAnyH_ready (rs := [5]) (by kernel_rfl) (by simp) ?_
  refine AllReadyH.cons rfl (fun K hK => ?_) AllReadyH.nil
  go_simp
  refine (addTop_any (HPD.out _) HFS.out x (.slice none 0 0) (by rw [HK0.out]; exact Forest.nil _ _) hxt (by omega) (by omega)).mono ?_
  rintro e w4 ⟨rfl, col4, cs4, h4, st4⟩
  have st5 := st4.undrew
  have H4 := Lib.hid h4
  have ST4 := Lib.hid st5
  obtain ⟨_, hX2⟩ := st5.holds H8.out hX
  clear h4 st4 st5
  go_wp2_with fail
  refine hK.out _ _ ?_ (fun hHeld2 => ?_)
  · (try dsimp only)
    first | exact cells5 hX | exact cells5 hX.drew | exact cells5 (hX.drewN _) | exact cells5 hX2
  clear hK K hHeld1
  (try simp only [Act.put, List.setIfInBounds_toArray, List.set_cons_zero, List.set_cons_succ])
  refine wpAnyH_done (by kernel_rfl) ?_ _
  clear hHeld2
  go_wp2
  go_ret
  exact ⟨rfl, col4, fv, cs4, gn1, H4.out.on (by omega), (ST1.out.trans ST2.out).trans ST4.out⟩
end
end Go.Proofs.YtmdbhdhfdldegaaGreatDoor
namespace Go.Proofs.YtmdbhdhfdldegaaGreatDoor
open Go.RowKit Go.Bd
theorem ascii_at {g : ByteArray} (hg : ∀ b ∈ g.data.toList, b.toNat < 128) {i : Nat} (hi : i < g.size) : (g[i]'hi).toNat < 128 :=
  hg _ (List.getElem_mem (l := g.data.toList) (by simpa using hi))
set_option maxRecDepth 100000 in
set_option maxHeartbeats 400000 in
theorem indexRune_bad (g : ByteArray) (w : World) (hg : ∀ b ∈ g.data.toList, b.toNat < 128) :
    Calls Tryz.prog 126 #[.string g, .int .i32 65533] w fun e w' => e = .returned (.int .i64 (-1)) ∧ Below w.heap.size w w' := by
  have HG := Lib.hid hg
  clear hg
  go_enter Tryz.func126, Tryz.ntmps126
  go_wp2
  go_loopg [5, 6] g.size (fun n _ _ wx => ∃ i : Nat, i + n = g.size ∧ wx = w.iter g i)
  case atStart => exact ⟨0, by omega, rfl⟩
  case round =>
    obtain ⟨i, hig, rfl⟩ := hrel
    cases gk with
    | zero =>
      obtain rfl : i = g.size := by omega
      have hnx := run_next_end (P := Tryz.prog) w g g.size
      go_wp2
      go_ret
      exact ⟨rfl, (Below.refl _ _).alloc (Nat.le_refl _) _⟩
    | succ n =>
      have hi : i < g.size := by omega
      have hx := ascii_at HG.out hi
      have hnx := fun ty => run_next_ascii (P := Tryz.prog) w g i ty hi hx
      go_wp2
      all_goals first | omega | skip
      go_roundg n
      case measure => omega
      case rel => exact ⟨i + 1, by omega, rfl⟩
theorem indexByte_high (l : Bs) (hl : ∀ b ∈ l, b.toNat < 128) (c : UInt8) (hc : 128 ≤ c.toNat) : Lib.indexByte l c = -1 := by
  have h := Lib.contains_iff_indexByte l c
  have hn : l.contains c = false := by
    rw [Bool.eq_false_iff]
    intro hm
    have := hl c (by simpa using hm)
    omega
  rw [hn] at h
  have h1 := of_decide_eq_false h.symm
  have h2 := Lib.indexByte_ge l c
  omega
set_option maxRecDepth 100000 in
set_option maxHeartbeats 400000 in
theorem indexRune_valid (g : ByteArray) (r : Int) (w : World) (hg : ∀ b ∈ g.data.toList, b.toNat < 128) (h4 : 4 ≤ g.size) (h5 : g.size ≤ 200) (h1 : 128 ≤ r) (h2 : ¬ r = 65533) (hv : Utf8.valid r = true) :
    Calls Tryz.prog 126 #[.string g, .int .i32 r] w fun e w' => e = .returned (.int .i64 (-1)) ∧ Below w.heap.size w w' := by
  have HG := Lib.hid hg
  clear hg
  obtain ⟨f1, f2, f3⟩ := encode_facts r hv h1
  have hv' : validRune r = true := by rw [← validRune_eq]; exact hv
  have Hv := Lib.hid hv
  clear hv
  have hne : (r == 65533) = false := by simpa using h2
  generalize he : Utf8.encode r = e at f1 f2 f3
  have hce := fun (w : World) => run_convert_int_string (P := Tryz.prog) w 21 9 .i32 r (by rw [Tryz.underlying21]; rfl) Tryz.underlying9
  rw [he] at hce
  have He := Lib.hid he
  clear he
  obtain ⟨n, hn⟩ : ∃ n, e.size = n + 1 := ⟨e.size - 1, by omega⟩
  have hng : n < g.size := by omega
  have hne' : n < e.size := by omega
  have f4 : 128 ≤ (e[n]'hne').toNat := by
    have h := f3 (by omega)
    have e1 : e.size - 1 = n := by omega
    simpa only [e1] using h
  clear f3
  have hx := ascii_at HG.out hng
  have hneq : ((g[n]'hng).toNat : Int) ≠ (e[n]'hne').toNat := by omega
  have hb : (((g[n]'hng).toNat : Int) != (e[n]'hne').toNat) = true := by simpa using hneq
  have hb' : (((g[n]'hng).toNat : Int) == (e[n]'hne').toNat) = false := by simpa using hneq
  clear hneq
  go_enter Tryz.func126, Tryz.ntmps126
  go_wp2_with (go_at_call 133; refine (Tryz.utf8_ValidRune _ _).mono ?_; rintro e w' ⟨rfl, hw⟩; subst hw)
  · go_ret
    exact ⟨rfl, Below.refl _ _⟩
  · go_step3
    go_wp2
    refine wp_loop_rounds 1 ?_
    rw [rounds_succ]
    go_wp2
    go_step3
    go_wp2
    have Hn := Lib.hid hn
    clear hn
    go_quiet (fail)
    go_wp2
    have hbq : Below w'.heap.size w' (w'.drewN nq) := Go.below_drewN (Below.refl _ _) _
    generalize w'.drewN nq = w2 at hbq ⊢
    have q1 : IntKind.i64.wrap ((n : Int) + 1) = (n : Int) + 1 := IntWalk.i64_in _ (by omega)
    have q2 : 0 ≤ (n : Int) + 1 := by omega
    have q3 : ((n : Int) + 1).toNat = n + 1 := by omega
    have q4 : (n : Int) + 1 ≤ (g.size : Int) := by omega
    have e41 : Lib.indexByte (List.take (g.size - (n + 1)) (List.drop (n + 1) g.data.toList)) (e[n]'hne') < 0 := by
      rw [indexByte_high _ (fun b hb => HG.out b (List.mem_of_mem_drop (List.mem_of_mem_take hb))) _ f4]; decide
    go_quiet ((go_at_call 132; exact Calls.quiet_of_same (Tryz.strings_IndexByte _ _ _)))
    clear q1 q2 q3 q4
    go_wp2
    rw [Exit.noGoto_ret]
    simp only [Exit.inBlock, Exit.then]
    rw [Exit.noGoto_ret]
    simp only [Exit.inBlock]
    go_ret
    exact ⟨rfl, Go.below_drewN hbq _⟩
set_option maxRecDepth 100000 in
set_option maxHeartbeats 400000 in
theorem indexRune_none (g : ByteArray) (r : Int) (w : World) (h1 : 128 ≤ r) (h2 : ¬ r = 65533) (hv : validRune r = false) :
    Calls Tryz.prog 126 #[.string g, .int .i32 r] w fun e w' => e = .returned (.int .i64 (-1)) ∧ Below w.heap.size w w' := by
  have hv2 : Lib.validRune r = false := hv
  have hne : (r == 65533) = false := by simpa using h2
  go_enter Tryz.func126, Tryz.ntmps126
  go_wp2_with (go_at_call 133; refine (Tryz.utf8_ValidRune _ _).mono ?_; rintro e w' ⟨rfl, hw⟩; subst hw)
  go_ret
  exact ⟨rfl, Below.refl _ _⟩
theorem indexRune_high (g : ByteArray) (r : Int) (w : World) (hg : ∀ b ∈ g.data.toList, b.toNat < 128) (h4 : 4 ≤ g.size) (h5 : g.size ≤ 200) (h1 : 128 ≤ r) :
    Calls Tryz.prog 126 #[.string g, .int .i32 r] w fun e w' => e = .returned (.int .i64 (-1)) ∧ Below w.heap.size w w' := by
  by_cases h2 : r = 65533
  · subst h2; exact indexRune_bad g w hg
  · by_cases hv : Utf8.valid r = true
    · exact indexRune_valid g r w hg h4 h5 h1 h2 hv
    · exact indexRune_none g r w h1 h2 (by rw [validRune_eq] at hv; simpa using hv)
end Go.Proofs.YtmdbhdhfdldegaaGreatDoor
namespace Go.Proofs.YtmdbhdhfdldegaaGreatDoor
open Go.RowKit Go.Bd
theorem decode_bytes (s : ByteArray) (p : Nat) (h : p < s.size) (ha : 128 ≤ (s[p]'h).toNat) :
    p + (Utf8.decode s p).2 ≤ s.size ∧ ∀ j (hj : p + j < s.size), j < (Utf8.decode s p).2 → 128 ≤ (s[p + j]'hj).toNat := by
  have hn : ¬ (s[p]'h).toNat < 128 := by omega
  have hg : ∀ k (hk : p + k < s.size), s.get! (p + k) = s[p + k]'hk := fun k hk => by
    show s.get! (p + k) = _
    simp [ByteArray.get!, getElem!_pos, hk]; rfl
  have key : ∀ k, (decide (p + k < s.size) && (s.get! (p + k)).toNat / 64 == 2) = true → p + k < s.size ∧ ∀ hk : p + k < s.size, 128 ≤ (s[p + k]'hk).toNat := by
    intro k hk
    simp only [Bool.and_eq_true, decide_eq_true_eq, beq_iff_eq] at hk
    refine ⟨hk.1, fun hk' => ?_⟩
    have := hk.2
    rw [hg k hk'] at this
    omega
  have h0 : ∀ (hj : p + 0 < s.size), 128 ≤ (s[p + 0]'hj).toNat := fun _ => ha
  simp only [Utf8.decode, get_at s p h, hn, if_false]
  split
  · rename_i c
    simp only [Bool.and_eq_true] at c
    have k1 := key 1 (by simpa using c.2)
    split
    · refine ⟨by omega, fun j hj hl => ?_⟩
      match j, hl with
      | 0, _ => exact h0 hj
      | 1, _ => exact k1.2 hj
    · exact ⟨by omega, fun j hj hl => by obtain rfl : j = 0 := by simpa using hl
                                         exact h0 hj⟩
  · split
    · rename_i c
      simp only [Bool.and_eq_true] at c
      have k1 := key 1 (by simpa using c.1.2)
      have k2 := key 2 (by simpa using c.2)
      split
      · refine ⟨by omega, fun j hj hl => ?_⟩
        match j, hl with
        | 0, _ => exact h0 hj
        | 1, _ => exact k1.2 hj
        | 2, _ => exact k2.2 hj
      · exact ⟨by omega, fun j hj hl => by obtain rfl : j = 0 := by simpa using hl
                                           exact h0 hj⟩
    · split
      · rename_i c
        simp only [Bool.and_eq_true] at c
        have k1 := key 1 (by simpa using c.1.1.2)
        have k2 := key 2 (by simpa using c.1.2)
        have k3 := key 3 (by simpa using c.2)
        split
        · refine ⟨by omega, fun j hj hl => ?_⟩
          match j, hl with
          | 0, _ => exact h0 hj
          | 1, _ => exact k1.2 hj
          | 2, _ => exact k2.2 hj
          | 3, _ => exact k3.2 hj
        · exact ⟨by omega, fun j hj hl => by obtain rfl : j = 0 := by simpa using hl
                                             exact h0 hj⟩
      · exact ⟨by simp; omega, fun j hj hl => by obtain rfl : j = 0 := by simpa using hl
                                                 exact h0 hj⟩
def NoSign (s : ByteArray) (g : Bs) (p : Nat) : Prop := p ≤ s.size ∧ ∀ j (h : j < s.size), j < p → g.contains s[j] = false
theorem NoSign.all {s : ByteArray} {g : Bs} (h : NoSign s g s.size) : s.data.toList.any (g.contains ·) = false := by
  rw [List.any_eq_false]
  intro x hx
  obtain ⟨j, hj, rfl⟩ := List.mem_iff_getElem.1 hx
  have := h.2 j (by simpa using hj) (by simpa using hj)
  have e : s.data.toList[j] = s[j]'(by simpa using hj) := rfl
  rw [e, this]; decide
theorem any_hit {s : ByteArray} {g : Bs} {p : Nat} (hp : p < s.size) (h : g.contains s[p] = true) : s.data.toList.any (g.contains ·) = true :=
  List.any_eq_true.2 ⟨s[p], List.getElem_mem (l := s.data.toList) (by simpa using hp), h⟩
theorem NoSign.step {s : ByteArray} {g : Bs} {p : Nat} (h : NoSign s g p) (hp : p < s.size) (h1 : g.contains s[p] = false) : NoSign s g (p + 1) := by
  refine ⟨by omega, fun j hj hjp => ?_⟩
  by_cases e : j = p
  · subst e; exact h1
  · exact h.2 j hj (by omega)
theorem NoSign.jump {s : ByteArray} {g : Bs} {p d : Nat} (h : NoSign s g p) (hd : p + d ≤ s.size) (h1 : ∀ j (hj : p + j < s.size), j < d → 128 ≤ (s[p + j]'hj).toNat) (hg : ∀ b ∈ g, b.toNat < 128) : NoSign s g (p + d) := by
  refine ⟨hd, fun j hj hjp => ?_⟩
  by_cases e : j < p
  · exact h.2 j hj e
  · rw [Bool.eq_false_iff]
    intro hc
    have h2 := hg _ (by simpa using hc)
    obtain ⟨k, rfl⟩ : ∃ k, j = p + k := ⟨j - p, by omega⟩
    have := h1 k hj (by omega)
    omega
def HitPost (hit : Bool) (w : World) (e : Ending) (w' : World) : Prop := ∃ r : Int, decide (0 ≤ r) = hit ∧ e = .returned (.int .i64 r) ∧ Below w.heap.size w w'
set_option maxHeartbeats 400000 in
theorem indexAny_short (s g : ByteArray) (w : World) (hg : ∀ b ∈ g.data.toList, b.toNat < 128) (h4 : 4 ≤ g.size) (h5 : g.size ≤ 200) (h8 : s.size ≤ 8) :
    Calls Tryz.prog 116 #[.string s, .string g] w (HitPost (s.data.toList.any (g.data.toList.contains ·)) w) := by
  have HG := Lib.hid hg
  clear hg
  have hemp : g.toList.isEmpty = false := by
    rw [ByteArray.toList_eq]
    cases h : g.data.toList with
    | nil => have := size_list g; rw [h, List.length_nil] at this; omega
    | cons _ _ => rfl
  have hn1 : ((g.size : Int) == 1) = false := beq_eq_false_iff_ne.2 (by omega)
  have h8z : decide ((8 : Int) < (s.size : Int)) = false := decide_eq_false (by omega)
  go_enter Tryz.func116, Tryz.ntmps116
  go_wp2_with (go_at_call 127; refine (Tryz.strings_shouldUseASCIISet _ _).mono ?_; rintro e w' ⟨rfl, hw⟩; rw [hw, h8z])
  go_loopg [9, 10] s.size (fun n _ _ wx => ∃ p : Nat, p + n = s.size ∧ wx.heap[w.heap.size]? = some (.stringIter s p) ∧ Hid (NoSign s g.data.toList p) ∧ Below w.heap.size w wx)
  case atStart => exact ⟨0, by omega, World.iter_heap _ _ _, ⟨by omega, fun _ _ h => absurd h (by omega)⟩, (Below.refl _ _).alloc (Nat.le_refl _) _⟩
  case round =>
    obtain ⟨p, hpn, hit, HN, hb⟩ := hrel
    cases gk with
    | zero =>
      obtain rfl : p = s.size := by omega
      have hnx := fun ty => Lib.run_next_end_at (P := Tryz.prog) wr w.heap.size s s.size ty hit (by omega)
      go_wp2
      go_ret
      exact ⟨-1, by rw [HN.out.all]; rfl, rfl, hb⟩
    | succ n =>
      have hp : p < s.size := by omega
      by_cases hx : (s[p]'hp).toNat < 128
      · have hnx := fun ty => Lib.run_next_ascii_at (P := Tryz.prog) wr w.heap.size s p ty hit hp hx
        have hcon := Lib.contains_iff_indexByte g.data.toList (s[p]'hp)
        have hback : (((s[p]'hp).toNat : Int)).toNat.toUInt8 = s[p]'hp := by simp
        cases hin : g.data.toList.contains (s[p]'hp)
        · rw [hin] at hcon
          have hlt : Lib.indexByte g.data.toList (s[p]'hp) < 0 := by have := of_decide_eq_false hcon.symm; omega
          clear hcon
          have HI := Lib.hid hin
          clear hin
          go_wp2_with (go_at_call 126; refine (Tryz.strings_IndexRune_ascii _ _ _ (by omega) (by omega)).mono ?_; rintro e w' ⟨rfl, hw⟩; rw [hw, hback])
          go_roundg n
          case measure => omega
          case rel => exact ⟨p + 1, by omega, Lib.iterAt_heap _ _ _ _ _ hit, HN.out.step hp HI.out, Lib.below_iterAt hb (Nat.le_refl _) _ _⟩
        · rw [hin] at hcon
          have hge : 0 ≤ Lib.indexByte g.data.toList (s[p]'hp) := of_decide_eq_true hcon.symm
          clear hcon
          have HI := Lib.hid hin
          clear hin
          go_wp2_with (go_at_call 126; refine (Tryz.strings_IndexRune_ascii _ _ _ (by omega) (by omega)).mono ?_; rintro e w' ⟨rfl, hw⟩; rw [hw, hback])
          go_ret
          exact ⟨(p : Int), by rw [any_hit hp HI.out]; simp, rfl, Lib.below_iterAt hb (Nat.le_refl _) _ _⟩
      · obtain ⟨d1, d2⟩ := decode_high s p hp (by omega)
        obtain ⟨d3, d4⟩ := decode_bytes s p hp (by omega)
        have D4 := Lib.hid d4
        clear d4
        have hnx := fun ty => Lib.run_next_any_at (P := Tryz.prog) wr w.heap.size s p ty hit hp
        generalize hc : (Utf8.decode s p).1 = c at d1 hnx
        generalize hd : (Utf8.decode s p).2 = d at d2 d3 D4 hnx
        clear hc hd
        go_wp2_with (go_at_call 126; refine (indexRune_high _ _ _ HG.out h4 h5 (by omega)).mono ?_; rintro e w2 ⟨rfl, hb2⟩)
        go_roundg (s.size - (p + d))
        case measure => omega
        case rel => exact ⟨p + d, by omega, (hb2.block _ (by rw [Lib.iterAt_size]; exact (Array.getElem?_eq_some_iff.1 hit).1)).trans (Lib.iterAt_heap _ _ _ _ _ hit), HN.out.jump d3 D4.out HG.out, (Lib.below_iterAt hb (Nat.le_refl _) _ _).trans (hb2.mono (by rw [Lib.iterAt_size]; exact hb.size))⟩
end Go.Proofs.YtmdbhdhfdldegaaGreatDoor
namespace Go.Proofs.YtmdbhdhfdldegaaGreatDoor
open Go.RowKit Go.Bd
theorem set_info : (Tryz.prog.info? 152).map (fun i => (i.zero, i.size)) = some (some (.agg (Array.replicate 256 (.bool false))), 256) := by kernel_rfl
theorem trimS_blank (l : Bs) : Lib.trimS l [32, 9] = trim l := by
  have e : (fun c => ([32, 9] : Bs).contains c) = Go.Bd.blank := by
    funext c
    rw [Bool.eq_iff_iff, blank_iff]
    simp only [List.contains_eq_mem, List.mem_cons, List.not_mem_nil, or_false, decide_eq_true_eq, ← UInt8.toNat_inj]
    simp; omega
  rw [← dropLR, Lib.trimS, Lib.trimLeftS, Lib.trimRightS, dropL, dropR, e]
theorem strTrim_any (s : ByteArray) (w : World) (hs : s.size ≤ 9223372036854775807) :
    Calls Tryz.prog 98 #[.string s, .string ⟨#[32, 9]⟩] w fun e w' => e = .returned (strV (trim s.data.toList)) ∧ Below w.heap.size w w' := by
  refine (Any.strings_Trim_laid Tryz.lays160 set_info s ⟨#[32, 9]⟩ w hs (by decide) (ascii_of_all (by decide))).mono ?_
  rintro e w' ⟨he, hb⟩
  refine ⟨?_, hb⟩
  rw [he]
  exact congrArg (fun l : Bs => Ending.returned (strV l)) (trimS_blank _)
end Go.Proofs.YtmdbhdhfdldegaaGreatDoor
namespace Go.Proofs.YtmdbhdhfdldegaaGreatDoor
open Go.RowKit Go.Bd
theorem indexAny_any (chars : Bs) : ∀ l : Bs, decide (0 ≤ Lib.indexAny l chars) = l.any (chars.contains ·)
  | [] => rfl
  | b :: l => by
    have ih := indexAny_any chars l
    have hge := Lib.indexAny_ge chars l
    rw [List.any_cons, ← ih, Lib.indexAny]
    cases h : chars.contains b
    · simp only [Bool.false_or, Bool.false_eq_true, if_false]
      by_cases h1 : Lib.indexAny l chars == -1
      · rw [if_pos h1]
        have : Lib.indexAny l chars = -1 := by simpa using h1
        rw [this]
      · rw [if_neg h1]
        have : Lib.indexAny l chars ≠ -1 := by simpa using h1
        rw [Bool.eq_iff_iff, decide_eq_true_eq, decide_eq_true_eq]; omega
    · simp
theorem containsAny_any (s g : ByteArray) (w : World) (hg : ∀ b ∈ g.data.toList, b.toNat < 128) (h4 : 4 ≤ g.size) (h5 : g.size ≤ 200) (hs : s.size < 4294967281) :
    Calls Tryz.prog 99 #[.string s, .string g] w fun e w' => e = .returned (.bool (s.data.toList.any (g.data.toList.contains ·))) ∧ Below w.heap.size w w' := by
  have c : Calls Tryz.prog 116 #[.string s, .string g] w (HitPost (s.data.toList.any (g.data.toList.contains ·)) w) := by
    by_cases h8 : s.size ≤ 8
    · exact indexAny_short s g w hg h4 h5 h8
    · refine (Tryz.strings_IndexAny_long (zero_of_info set_info).1 s g w (by omega) (by omega) hs (by omega) ?_).mono ?_
      · intro j b hj
        exact hg b (List.mem_of_getElem? hj)
      · rintro e w' ⟨he, hw⟩
        refine ⟨_, ?_, he, ?_⟩
        · exact indexAny_any _ _
        · rw [hw]
          exact ((Below.refl _ _).alloc (Nat.le_refl _) _).alloc (by simp) _
  generalize s.data.toList.any (g.data.toList.contains ·) = hit at c ⊢
  go_enter Tryz.func99, Tryz.ntmps99
  go_wp2_with (go_at_call 116; refine c.mono ?_; rintro e w' ⟨r, hr, rfl, hb⟩)
  go_ret
  exact ⟨rfl, hb⟩
def anySign (l : Bs) : Bool := l.any (signs.contains ·)
theorem containsSigns_any (s : ByteArray) (w : World) (hs : s.size < 4294967281) :
    Calls Tryz.prog 99 #[.string s, .string ⟨#[59, 62, 60, 40, 41]⟩] w fun e w' => e = .returned (.bool (anySign s.data.toList)) ∧ Below w.heap.size w w' :=
  containsAny_any s ⟨#[59, 62, 60, 40, 41]⟩ w (by decide) (by decide) (by decide) hs
set_option maxHeartbeats 400000 in
theorem termPart_any (s : ByteArray) (w : World) (hs : s.size < 4294967281) :
    Calls Tryz.prog 74 #[.string s] w fun e w' => e = .returned (.tuple #[strV (trim s.data.toList), .bool (partB (trim s.data.toList))]) ∧ Below w.heap.size w w' := by
  have hle := trim_le s.data.toList
  rw [← size_list] at hle
  have ht := strTrim_any s w (by omega)
  have Hp : Hid (partB (trim s.data.toList) = (!(trim s.data.toList).isEmpty && !anySign (trim s.data.toList))) := partB_signs _
  obtain ⟨l, hl⟩ : ∃ l, l = trim s.data.toList := ⟨_, rfl⟩
  rw [← hl] at ht Hp hle ⊢
  clear hl
  rw [strV] at ht
  by_cases he : l = []
  · subst he
    go_enter Tryz.func74, Tryz.ntmps74
    go_wp2_with (go_at_call 98; refine ht.mono ?_; rintro e w1 ⟨rfl, hb⟩)
    go_ret2
    exact ⟨rfl, hb⟩
  · have h1 : l.isEmpty = false := by simpa using he
    go_enter Tryz.func74, Tryz.ntmps74
    go_wp2_with (first
      | (go_at_call 98; refine ht.mono ?_; rintro e w1 ⟨rfl, hb⟩)
      | (go_at_call 99; refine (containsSigns_any _ _ (by rw [size_mk]; omega)).mono ?_; rintro e w2 ⟨rfl, hb2⟩))
    go_ret2
    exact ⟨congrArg Ending.returned (by rw [Hp.out, h1]; rfl), hb.trans (hb2.mono hb.size)⟩
end Go.Proofs.YtmdbhdhfdldegaaGreatDoor
namespace Go.Bd
theorem first_cons (x : UInt8) (l : Bs) (c : UInt8) : first (x :: l) c.toNat = if x = c then 0 else first l c.toNat + 1 := by
  unfold first
  rw [List.findIdx_cons]
  by_cases h : x = c
  · subst h; simp
  · have : ((x.toNat : Int) == (c.toNat : Int)) = false := by
      rw [beq_eq_false_iff_ne]; intro e; exact h (UInt8.toNat_inj.1 (by omega))
    rw [this, if_neg h]; rfl
theorem indexByte_first (c : UInt8) : ∀ l : Bs, Lib.indexByte l c = if first l c.toNat < l.length then (first l c.toNat : Int) else -1
  | [] => rfl
  | x :: l => by
    have ih := indexByte_first c l
    have hle := first_le l (c.toNat : Int)
    rw [first_cons, Lib.indexByte, ih]
    by_cases h : x = c
    · subst h; simp
    · rw [if_neg (by simpa using h), if_neg h]
      by_cases h2 : first l c.toNat < l.length
      · rw [if_pos h2, if_neg (by rw [beq_iff_eq]; omega), if_pos (by simp only [List.length_cons]; omega)]; omega
      · rw [if_neg h2, if_pos (by decide), if_neg (by simp only [List.length_cons]; omega)]
theorem cut_hit {l : Bs} {c : UInt8} (h : first l c.toNat < l.length) : Lib.cut l [c] = (l.take (first l c.toNat), l.drop (first l c.toNat + 1), true) := by
  rw [Lib.cut, Lib.index_one, indexByte_first, if_pos h, if_pos (by omega)]; rfl
theorem cut_none {l : Bs} {c : UInt8} (h : l.length ≤ first l c.toNat) : Lib.cut l [c] = (l, [], false) := by
  rw [Lib.cut, Lib.index_one, indexByte_first, if_neg (by omega)]
def two (l : Bs) (m : Nat) : Bool := partB (trim (l.take m)) && partB (trim (l.drop (m + 1)))
theorem mem_dropL {l : Bs} {c : UInt8} (h : c ∈ l) (hb : blank c = false) : c ∈ dropL l := by
  unfold dropL
  induction l with
  | nil => cases h
  | cons x l ih =>
    by_cases hx : blank x = true
    · rw [List.dropWhile_cons_of_pos hx]
      rcases List.mem_cons.1 h with e | e
      · subst e; rw [hb] at hx; cases hx
      · exact ih e
    · rw [List.dropWhile_cons_of_neg hx]; exact h
theorem mem_trim {l : Bs} {c : UInt8} (h : c ∈ l) (hb : blank c = false) : c ∈ trim l := by
  unfold trim dropR
  rw [List.mem_reverse]
  exact mem_dropL (List.mem_reverse.2 (mem_dropL h hb)) hb
theorem partB_mem {l : Bs} {c : UInt8} (h : c ∈ l) (hc : c ∈ signs) : partB l = false := by
  rw [partB_signs]
  have : l.any (signs.contains ·) = true := List.any_eq_true.2 ⟨c, h, by simpa using hc⟩
  rw [this]; simp
theorem first_mem {l : Bs} {c : UInt8} (h : first l c.toNat < l.length) : l[first l c.toNat]'h = c := by
  have := List.findIdx_getElem (w := h)
  have e : (((l[first l c.toNat]'h).toNat : Int) == c.toNat) = true := this
  exact UInt8.toNat_inj.1 (by have := (beq_iff_eq.1 e); omega)
theorem mem_take_first {l : Bs} {c : UInt8} {m : Nat} (h : first l c.toNat < l.length) (hm : first l c.toNat < m) : c ∈ l.take m := by
  rw [List.mem_iff_getElem]
  exact ⟨first l c.toNat, by simp; omega, by rw [List.getElem_take, first_mem h]⟩
theorem mem_drop_first {l : Bs} {c : UInt8} {m : Nat} (h : first l c.toNat < l.length) (hm : m ≤ first l c.toNat) : c ∈ l.drop m := by
  rw [List.mem_iff_getElem]
  refine ⟨first l c.toNat - m, by simp; omega, ?_⟩
  rw [List.getElem_drop]
  have e : m + (first l c.toNat - m) = first l c.toNat := by omega
  simp only [e]
  exact first_mem h
theorem parseB_long {l : Bs} (h : 240 < l.length) : parseB l = none := by rw [parseB, if_pos h]
theorem e59 : ((59 : UInt8).toNat : Int) = 59 := rfl
theorem e62 : ((62 : UInt8).toNat : Int) = 62 := rfl
theorem parseB_sub {l : Bs} (hl : l.length ≤ 240) (h : first l 59 < l.length) :
    parseB l = if two l (first l 59) = true then some (trim (l.take (first l 59)), trim (l.drop (first l 59 + 1)), []) else none := by
  have f59 := @first_mem l 59 (by rw [e59]; exact h)
  simp only [e59] at f59
  rw [parseB, if_neg (by omega)]
  rcases Nat.lt_or_ge (first l 62) (first l 59) with hlt | hge
  · have hm : min (first l 59) (first l 62) = first l 62 := Nat.min_eq_right (Nat.le_of_lt hlt)
    have n1 : partB (trim (l.take (first l 59))) = false :=
      partB_mem (c := 62) (mem_trim (mem_take_first (by rw [e62]; omega) (by rw [e62]; exact hlt)) (by decide)) (by decide)
    have n2 : partB (trim (l.drop (first l 62 + 1))) = false :=
      partB_mem (c := 59) (mem_trim (mem_drop_first (by rw [e59]; exact h) (by rw [e59]; omega)) (by decide)) (by decide)
    rw [hm, if_neg (show ¬ two l (first l 59) = true by simp [two, n1]), n2]
    split
    · rfl
    · rw [if_neg (by omega)]; simp
  · have hm : min (first l 59) (first l 62) = first l 59 := Nat.min_eq_left hge
    rw [hm, two]
    cases h1 : partB (trim (l.take (first l 59)))
    · simp
    · rw [if_neg (by simp), if_neg (by omega)]
      cases h2 : partB (trim (l.drop (first l 59 + 1)))
      · simp
      · rw [if_neg (by simp), if_pos, if_pos (by simp)]
        rw [List.getD_eq_getElem?_getD, List.getElem?_eq_getElem h, Option.getD_some, f59]; rfl
theorem parseB_see {l : Bs} (hl : l.length ≤ 240) (h0 : first l 59 = l.length) (h : first l 62 < l.length) :
    parseB l = if two l (first l 62) = true then some (trim (l.take (first l 62)), [], trim (l.drop (first l 62 + 1))) else none := by
  have f62 := @first_mem l 62 (by rw [e62]; exact h)
  simp only [e62] at f62
  have hm : min (first l 59) (first l 62) = first l 62 := Nat.min_eq_right (by omega)
  rw [parseB, if_neg (by omega), hm, two]
  cases h1 : partB (trim (l.take (first l 62)))
  · simp
  · rw [if_neg (by simp), if_neg (by omega)]
    cases h2 : partB (trim (l.drop (first l 62 + 1)))
    · simp
    · rw [if_neg (by simp), if_neg, if_pos (by simp)]
      rw [List.getD_eq_getElem?_getD, List.getElem?_eq_getElem h, Option.getD_some, f62]; decide
theorem parseB_one {l : Bs} (hl : l.length ≤ 240) (h0 : first l 59 = l.length) (h : first l 62 = l.length) :
    parseB l = if partB (trim l) = true then some (trim l, [], []) else none := by
  have hm : min (first l 59) (first l 62) = l.length := by omega
  rw [parseB, if_neg (by omega), hm, List.take_of_length_le (Nat.le_refl _), if_pos rfl]
  cases h1 : partB (trim l) <;> simp
end Go.Bd
namespace Go.Proofs.YtmdbhdhfdldegaaGreatDoor
open Go.RowKit Go.Bd
theorem tell1_any (a b : ByteArray) (w : World) : Calls Tryz.prog 94 #[.string a, .string b] w fun e w' => e = .returned (.agg #[.string a, .string b, .string ⟨#[]⟩]) ∧ Below w.heap.size w w' := by
  go_enter Tryz.func94, Tryz.ntmps94
  go_wp2
  go_returns
  exact ⟨rfl, (Below.refl _ _).alloc (Nat.le_refl _) _⟩
theorem tell2_any (a b : ByteArray) (w : World) : Calls Tryz.prog 95 #[.string a, .string b] w fun e w' => e = .returned (.agg #[.string a, .string ⟨#[]⟩, .string b]) ∧ Below w.heap.size w w' := by
  go_enter Tryz.func95, Tryz.ntmps95
  go_wp2
  go_returns
  exact ⟨rfl, (Below.refl _ _).alloc (Nat.le_refl _) _⟩
theorem tell3_any (a b : ByteArray) (w : World) : Calls Tryz.prog 96 #[.string a, .string b] w fun e w' => e = .returned (.agg #[.string a, .string ⟨#[]⟩, .string ⟨#[]⟩]) ∧ Below w.heap.size w w' := by
  go_enter Tryz.func96, Tryz.ntmps96
  go_wp2
  go_returns
  exact ⟨rfl, (Below.refl _ _).alloc (Nat.le_refl _) _⟩
theorem forms_any (w : World) : Calls Tryz.prog 72 #[] w fun e w' => e = .returned (.agg #[.string ⟨#[59]⟩, .func (.func 94) #[] #[], .string ⟨#[62]⟩, .func (.func 95) #[] #[], .string ⟨#[]⟩, .func (.func 96) #[] #[]]) ∧ Below w.heap.size w w' := by
  go_enter Tryz.func72, Tryz.ntmps72
  go_wp2
  go_returns
  exact ⟨rfl, (Below.refl _ _).alloc (Nat.le_refl _) _⟩
def formsV : Value := .agg #[.string ⟨#[59]⟩, .func (.func 94) #[] #[], .string ⟨#[62]⟩, .func (.func 95) #[] #[], .string ⟨#[]⟩, .func (.func 96) #[] #[]]
theorem form0 (w : World) : (Instr.index 117 formsV (.int .i64 0)).run Tryz.prog w = .ok (.agg #[.string ⟨#[59]⟩, .func (.func 94) #[] #[]]) w := by kernel_rfl
theorem form1 (w : World) : (Instr.index 117 formsV (.int .i64 1)).run Tryz.prog w = .ok (.agg #[.string ⟨#[62]⟩, .func (.func 95) #[] #[]]) w := by kernel_rfl
theorem form2 (w : World) : (Instr.index 117 formsV (.int .i64 2)).run Tryz.prog w = .ok (.agg #[.string ⟨#[]⟩, .func (.func 96) #[] #[]]) w := by kernel_rfl
def parseO : Option (Bs × Bs × Bs) → Value
  | none => .tuple #[.agg #[strV [], strV [], strV []], .bool false]
  | some (a, b, c) => .tuple #[.agg #[strV a, strV b, strV c], .bool true]
def parseP (l : Bs) : Value := parseO (parseB l)
set_option maxHeartbeats 400000 in
theorem parse_long (s : ByteArray) (w : World) (hs : s.size ≤ 9223372036854775807) (hl : 240 < s.size) :
    Calls Tryz.prog 47 #[.string s] w fun e w' => e = .returned (parseP s.data.toList) ∧ Below w.heap.size w w' := by
  have hv : Hid (parseP s.data.toList = .tuple #[.agg #[strV [], strV [], strV []], .bool false]) := by
    unfold Hid; rw [parseP, parseB_long (by simpa using hl)]; rfl
  go_enter Tryz.func47, Tryz.ntmps47
  go_wp2
  go_returns
  exact ⟨congrArg Ending.returned hv.out.symm, (Below.refl _ _).alloc (Nat.le_refl _) _⟩
theorem cut59_hit (s : ByteArray) (m : Int) (w : World) (hs : s.size ≤ 240) (hm : w.cell? ⟨0, 0, none⟩ = some (.int .i64 m)) (h : first s.data.toList 59 < s.size) :
    Calls Tryz.prog 73 #[.string s, .string ⟨#[59]⟩] w fun e w' => e = .returned (.tuple #[strV (s.data.toList.take (first s.data.toList 59)), strV (s.data.toList.drop (first s.data.toList 59 + 1)), .bool true]) ∧ Below w.heap.size w w' := by
  refine (Tryz.strings_Cut s ⟨#[59]⟩ m w (by omega) hm).mono ?_
  rintro e w' ⟨he, n, hw⟩
  refine ⟨?_, hw ▸ Go.below_drewN (Below.refl _ _) _⟩
  have hc := @cut_hit s.data.toList 59 (by rw [e59]; simpa using h)
  rw [e59] at hc
  rw [he, show (⟨#[59]⟩ : ByteArray).data.toList = [59] from rfl, hc]; rfl
structure St (w W : World) (g : Nat) (sg : ByteArray) (f : Value) : Prop where
  res : Holds W w.heap.size 91 #[.string ⟨#[]⟩, .string ⟨#[]⟩, .string ⟨#[]⟩]
  form : Holds W g 116 #[.string sg, f]
  below : Below w.heap.size w W
  apart : w.heap.size < g
theorem St.later {w W W' : World} {g : Nat} {sg : ByteArray} {f : Value} (h : St w W g sg f) (hb : Below W.heap.size W W') : St w W' g sg f :=
  ⟨h.res.below hb h.res.lt, h.form.below hb h.form.lt, h.below.trans (hb.mono h.below.size), h.apart⟩
theorem St.first {w w1 : World} (sg : ByteArray) (f : Value) (hb : Below (w.alloc (.cells #[.string ⟨#[]⟩, .string ⟨#[]⟩, .string ⟨#[]⟩] 91)).heap.size (w.alloc (.cells #[.string ⟨#[]⟩, .string ⟨#[]⟩, .string ⟨#[]⟩] 91)) w1) :
    St w (w1.alloc (.cells #[.string sg, f] 116)) w1.heap.size sg f := by
  have hs1 : w.heap.size < w1.heap.size := by have := hb.size; simp at this; omega
  exact ⟨((Holds.new w _ _).below hb (by simp)).alloc _, Holds.new w1 _ _, (((Below.refl _ _).alloc (Nat.le_refl _) _).trans (hb.mono (by simp))).alloc (by omega) _, hs1⟩
theorem St.next {w W : World} {g : Nat} {sg : ByteArray} {f : Value} (h : St w W g sg f) (sg' : ByteArray) (f' : Value) : St w (W.alloc (.cells #[.string sg', f'] 116)) W.heap.size sg' f' :=
  ⟨h.res.alloc _, Holds.new W _ _, h.below.alloc h.below.size _, h.res.lt⟩
set_option maxHeartbeats 1000000 in
theorem parse_sub (s : ByteArray) (m : Int) (w : World) (hs : s.size ≤ 240) (hm : w.cell? ⟨0, 0, none⟩ = some (.int .i64 m)) (h : first s.data.toList 59 < s.size) :
    Calls Tryz.prog 47 #[.string s] w fun e w' => e = .returned (parseP s.data.toList) ∧ Below w.heap.size w w' := by
  have hv := Lib.hid (congrArg parseO (parseB_sub (l := s.data.toList) (by simpa using hs) (by simpa using h)))
  have f0 := form0
  have ff := forms_any
  change ∀ w, Calls _ _ _ _ (fun e w' => e = .returned formsV ∧ _) at ff
  generalize formsV = fv at f0 ff
  have hw0 := block_lt_of_cell hm
  have l1 : s.data.toList.length ≤ 240 := by simpa using hs
  go_enter Tryz.func47, Tryz.ntmps47
  go_wp2_with fail
  refine (ff _).mono ?_
  rintro e w1 ⟨rfl, hb1⟩
  go_wp2_with fail
  refine wp_loop_rounds 1 ?_
  rw [rounds_succ]
  go_wp2_with fail
  have S1 := St.first ⟨#[59]⟩ (.func (.func 94) #[] #[]) hb1
  obtain ⟨W1, hW1⟩ : ∃ W, W = w1.alloc (.cells #[.string ⟨#[59]⟩, .func (.func 94) #[] #[]] 116) := ⟨_, rfl⟩
  rw [← hW1] at S1 ⊢
  clear hW1 hb1
  generalize w1.heap.size = g at S1 ⊢
  refine (cut59_hit s m W1 hs ((S1.below.cell (p := ⟨0, 0, none⟩) hw0).trans hm) h).mono ?_
  rintro e w2 ⟨rfl, hb2⟩
  have S2 := S1.later hb2
  clear S1 hb2
  rw [strV, strV]
  go_wp2_with fail
  refine (termPart_any _ _ (by rw [size_mk, List.length_take]; omega)).mono ?_
  rintro e w3 ⟨rfl, hb3⟩
  have S3 := S2.later hb3
  clear S2 hb3
  have k0 := (S3.res.cell 0); have k1 := (S3.res.cell 1); have k2 := (S3.res.cell 2)
  have z0 := (S3.res.free 0); have z1 := (S3.res.free 1); have z2 := (S3.res.free 2)
  rw [show ∀ l : Bs, (ByteArray.mk l.toArray).data.toList = l from fun l => by simp]
  cases p1 : partB (trim (s.data.toList.take (first s.data.toList 59)))
  · go_wp2
    refine bodyPost_ret (v := (.tuple #[.agg #[strV [], strV [], strV []], .bool false])) (by simp [results, Tryz.results47, go_sem, k0, k1, k2, strV]) rfl ?_
    refine ⟨congrArg Ending.returned ?_, ?_⟩
    · rw [show parseP s.data.toList = _ from hv.out, two, p1]; rfl
    · have S3b := S3.below
      go_grown
  · go_wp2_with fail
    clear k0 k1 k2 z0 z1 z2
    refine (termPart_any _ _ (by rw [size_mk, List.length_drop]; omega)).mono ?_
    rintro e w4 ⟨rfl, hb4⟩
    have S4 := S3.later hb4
    clear S3 hb4
    rw [show ∀ l : Bs, (ByteArray.mk l.toArray).data.toList = l from fun l => by simp]
    cases p2 : partB (trim (s.data.toList.drop (first s.data.toList 59 + 1)))
    · have k0 := (S4.res.cell 0); have k1 := (S4.res.cell 1); have k2 := (S4.res.cell 2)
      have z0 := (S4.res.free 0); have z1 := (S4.res.free 1); have z2 := (S4.res.free 2)
      go_wp2
      refine bodyPost_ret (v := (.tuple #[.agg #[strV [], strV [], strV []], .bool false])) (by simp [results, Tryz.results47, go_sem, k0, k1, k2, strV]) rfl ?_
      refine ⟨congrArg Ending.returned ?_, ?_⟩
      · rw [show parseP s.data.toList = _ from hv.out, two, p1, p2]; rfl
      · have S4b := S4.below
        go_grown
    · have q1 := S4.form.cell 1
      rw [strV, strV]
      go_wp2_with fail
      clear q1
      refine (tell1_any _ _ _).mono ?_
      rintro e w5 ⟨rfl, hb5⟩
      have S5 := S4.later hb5
      have k0 := (S5.res.cell 0); have k1 := (S5.res.cell 1); have k2 := (S5.res.cell 2)
      have z0 := (S5.res.free 0); have z1 := (S5.res.free 1); have z2 := (S5.res.free 2)
      go_wp2
      refine bodyPost_ret (v := (.tuple #[.agg #[strV (trim (s.data.toList.take (first s.data.toList 59))), strV (trim (s.data.toList.drop (first s.data.toList 59 + 1))), strV []], .bool true])) (by simp [results, Tryz.results47, go_sem, k0, k1, k2, strV]) rfl ?_
      refine ⟨congrArg Ending.returned ?_, ?_⟩
      · rw [show parseP s.data.toList = _ from hv.out, two, p1, p2]; rfl
      · have S5b := S5.below
        go_grown
end Go.Proofs.YtmdbhdhfdldegaaGreatDoor
namespace Go.Proofs.YtmdbhdhfdldegaaGreatDoor
open Go.RowKit Go.Bd
theorem cut59_none (s : ByteArray) (m : Int) (w : World) (hs : s.size ≤ 240) (hm : w.cell? ⟨0, 0, none⟩ = some (.int .i64 m)) (h : first s.data.toList 59 = s.data.toList.length) :
    Calls Tryz.prog 73 #[.string s, .string ⟨#[59]⟩] w fun e w' => e = .returned (.tuple #[.string s, strV [], .bool false]) ∧ Below w.heap.size w w' := by
  refine (Tryz.strings_Cut s ⟨#[59]⟩ m w (by omega) hm).mono ?_
  rintro e w' ⟨he, n, hw⟩
  refine ⟨?_, hw ▸ Go.below_drewN (Below.refl _ _) _⟩
  have hc := @cut_none s.data.toList 59 (by rw [e59]; omega)
  rw [he, show (⟨#[59]⟩ : ByteArray).data.toList = [59] from rfl, hc]; simp [strV]
theorem cut62_none (s : ByteArray) (m : Int) (w : World) (hs : s.size ≤ 240) (hm : w.cell? ⟨0, 0, none⟩ = some (.int .i64 m)) (h : first s.data.toList 62 = s.data.toList.length) :
    Calls Tryz.prog 73 #[.string s, .string ⟨#[62]⟩] w fun e w' => e = .returned (.tuple #[.string s, strV [], .bool false]) ∧ Below w.heap.size w w' := by
  refine (Tryz.strings_Cut s ⟨#[62]⟩ m w (by omega) hm).mono ?_
  rintro e w' ⟨he, n, hw⟩
  refine ⟨?_, hw ▸ Go.below_drewN (Below.refl _ _) _⟩
  have hc := @cut_none s.data.toList 62 (by rw [e62]; omega)
  rw [he, show (⟨#[62]⟩ : ByteArray).data.toList = [62] from rfl, hc]; simp [strV]
theorem cut62_hit (s : ByteArray) (m : Int) (w : World) (hs : s.size ≤ 240) (hm : w.cell? ⟨0, 0, none⟩ = some (.int .i64 m)) (h : first s.data.toList 62 < s.size) :
    Calls Tryz.prog 73 #[.string s, .string ⟨#[62]⟩] w fun e w' => e = .returned (.tuple #[strV (s.data.toList.take (first s.data.toList 62)), strV (s.data.toList.drop (first s.data.toList 62 + 1)), .bool true]) ∧ Below w.heap.size w w' := by
  refine (Tryz.strings_Cut s ⟨#[62]⟩ m w (by omega) hm).mono ?_
  rintro e w' ⟨he, n, hw⟩
  refine ⟨?_, hw ▸ Go.below_drewN (Below.refl _ _) _⟩
  have hc := @cut_hit s.data.toList 62 (by rw [e62]; simpa using h)
  rw [e62] at hc
  rw [he, show (⟨#[62]⟩ : ByteArray).data.toList = [62] from rfl, hc]; rfl
set_option maxHeartbeats 1000000 in
theorem parse_see (s : ByteArray) (m : Int) (w : World) (hs : s.size ≤ 240) (hm : w.cell? ⟨0, 0, none⟩ = some (.int .i64 m)) (h0 : Hid (first s.data.toList 59 = s.data.toList.length)) (h : first s.data.toList 62 < s.size) :
    Calls Tryz.prog 47 #[.string s] w fun e w' => e = .returned (parseP s.data.toList) ∧ Below w.heap.size w w' := by
  have hv := Lib.hid (congrArg parseO (parseB_see (l := s.data.toList) (by simpa using hs) h0.out (by simpa using h)))
  have f0 := form0
  have f1 := form1
  have ff := forms_any
  change ∀ w, Calls _ _ _ _ (fun e w' => e = .returned formsV ∧ _) at ff
  generalize formsV = fv at f0 f1 ff
  have hw0 := block_lt_of_cell hm
  have l1 : s.data.toList.length ≤ 240 := by simpa using hs
  go_enter Tryz.func47, Tryz.ntmps47
  go_wp2_with fail
  refine (ff _).mono ?_
  rintro e w1 ⟨rfl, hb1⟩
  go_wp2_with fail
  refine wp_loop_rounds 2 ?_
  rw [rounds_succ]
  go_wp2_with fail
  have S1 := St.first ⟨#[59]⟩ (.func (.func 94) #[] #[]) hb1
  obtain ⟨W1, hW1⟩ : ∃ W, W = w1.alloc (.cells #[.string ⟨#[59]⟩, .func (.func 94) #[] #[]] 116) := ⟨_, rfl⟩
  rw [← hW1] at S1 ⊢
  clear hW1 hb1
  generalize w1.heap.size = g at S1 ⊢
  refine (cut59_none s m W1 hs ((S1.below.cell (p := ⟨0, 0, none⟩) hw0).trans hm) h0.out).mono ?_
  rintro e w2 ⟨rfl, hb2⟩
  have S2' := S1.later hb2
  clear S1 hb2
  rw [strV]
  go_wp2_with fail
  rw [rounds_succ]
  go_wp2_with fail
  have S1 := S2'.next ⟨#[62]⟩ (.func (.func 95) #[] #[])
  clear S2'
  obtain ⟨W2, hW2⟩ : ∃ W, W = w2.alloc (.cells #[.string ⟨#[62]⟩, .func (.func 95) #[] #[]] 116) := ⟨_, rfl⟩
  rw [← hW2] at S1 ⊢
  clear hW2
  generalize w2.heap.size = g2 at S1 ⊢
  refine (cut62_hit s m W2 hs ((S1.below.cell (p := ⟨0, 0, none⟩) hw0).trans hm) h).mono ?_
  rintro e w2 ⟨rfl, hb2⟩
  have S2 := S1.later hb2
  clear S1 hb2
  rw [strV, strV]
  go_wp2_with fail
  refine (termPart_any _ _ (by rw [size_mk, List.length_take]; omega)).mono ?_
  rintro e w3 ⟨rfl, hb3⟩
  have S3 := S2.later hb3
  clear S2 hb3
  have k0 := (S3.res.cell 0); have k1 := (S3.res.cell 1); have k2 := (S3.res.cell 2)
  have z0 := (S3.res.free 0); have z1 := (S3.res.free 1); have z2 := (S3.res.free 2)
  rw [show ∀ l : Bs, (ByteArray.mk l.toArray).data.toList = l from fun l => by simp]
  cases p1 : partB (trim (s.data.toList.take (first s.data.toList 62)))
  · go_wp2
    refine bodyPost_ret (v := (.tuple #[.agg #[strV [], strV [], strV []], .bool false])) (by simp [results, Tryz.results47, go_sem, k0, k1, k2, strV]) rfl ?_
    refine ⟨congrArg Ending.returned ?_, ?_⟩
    · rw [show parseP s.data.toList = _ from hv.out, two, p1]; rfl
    · have S3b := S3.below
      go_grown
  · go_wp2_with fail
    clear k0 k1 k2 z0 z1 z2
    refine (termPart_any _ _ (by rw [size_mk, List.length_drop]; omega)).mono ?_
    rintro e w4 ⟨rfl, hb4⟩
    have S4 := S3.later hb4
    clear S3 hb4
    rw [show ∀ l : Bs, (ByteArray.mk l.toArray).data.toList = l from fun l => by simp]
    cases p2 : partB (trim (s.data.toList.drop (first s.data.toList 62 + 1)))
    · have k0 := (S4.res.cell 0); have k1 := (S4.res.cell 1); have k2 := (S4.res.cell 2)
      have z0 := (S4.res.free 0); have z1 := (S4.res.free 1); have z2 := (S4.res.free 2)
      go_wp2
      refine bodyPost_ret (v := (.tuple #[.agg #[strV [], strV [], strV []], .bool false])) (by simp [results, Tryz.results47, go_sem, k0, k1, k2, strV]) rfl ?_
      refine ⟨congrArg Ending.returned ?_, ?_⟩
      · rw [show parseP s.data.toList = _ from hv.out, two, p1, p2]; rfl
      · have S4b := S4.below
        go_grown
    · have q1 := S4.form.cell 1
      rw [strV, strV]
      go_wp2_with fail
      clear q1
      refine (tell2_any _ _ _).mono ?_
      rintro e w5 ⟨rfl, hb5⟩
      have S5 := S4.later hb5
      have k0 := (S5.res.cell 0); have k1 := (S5.res.cell 1); have k2 := (S5.res.cell 2)
      have z0 := (S5.res.free 0); have z1 := (S5.res.free 1); have z2 := (S5.res.free 2)
      go_wp2
      refine bodyPost_ret (v := (.tuple #[.agg #[strV (trim (s.data.toList.take (first s.data.toList 62))), strV [], strV (trim (s.data.toList.drop (first s.data.toList 62 + 1)))], .bool true])) (by simp [results, Tryz.results47, go_sem, k0, k1, k2, strV]) rfl ?_
      refine ⟨congrArg Ending.returned ?_, ?_⟩
      · rw [show parseP s.data.toList = _ from hv.out, two, p1, p2]; rfl
      · have S5b := S5.below
        go_grown
set_option maxHeartbeats 1000000 in
theorem parse_one (s : ByteArray) (m : Int) (w : World) (hs : s.size ≤ 240) (hm : w.cell? ⟨0, 0, none⟩ = some (.int .i64 m)) (h0 : Hid (first s.data.toList 59 = s.data.toList.length)) (h : Hid (first s.data.toList 62 = s.data.toList.length)) :
    Calls Tryz.prog 47 #[.string s] w fun e w' => e = .returned (parseP s.data.toList) ∧ Below w.heap.size w w' := by
  have hv := Lib.hid (congrArg parseO (parseB_one (l := s.data.toList) (by simpa using hs) h0.out h.out))
  have f0 := form0
  have f1 := form1
  have f2 := form2
  have ff := forms_any
  change ∀ w, Calls _ _ _ _ (fun e w' => e = .returned formsV ∧ _) at ff
  generalize formsV = fv at f0 f1 f2 ff
  have hw0 := block_lt_of_cell hm
  have l1 : s.data.toList.length ≤ 240 := by simpa using hs
  go_enter Tryz.func47, Tryz.ntmps47
  go_wp2_with fail
  refine (ff _).mono ?_
  rintro e w1 ⟨rfl, hb1⟩
  go_wp2_with fail
  refine wp_loop_rounds 3 ?_
  rw [rounds_succ]
  go_wp2_with fail
  have S1 := St.first ⟨#[59]⟩ (.func (.func 94) #[] #[]) hb1
  obtain ⟨W1, hW1⟩ : ∃ W, W = w1.alloc (.cells #[.string ⟨#[59]⟩, .func (.func 94) #[] #[]] 116) := ⟨_, rfl⟩
  rw [← hW1] at S1 ⊢
  clear hW1 hb1
  generalize w1.heap.size = g at S1 ⊢
  refine (cut59_none s m W1 hs ((S1.below.cell (p := ⟨0, 0, none⟩) hw0).trans hm) h0.out).mono ?_
  rintro e w2 ⟨rfl, hb2⟩
  have S2' := S1.later hb2
  clear S1 hb2
  rw [strV]
  go_wp2_with fail
  rw [rounds_succ]
  go_wp2_with fail
  have S1 := S2'.next ⟨#[62]⟩ (.func (.func 95) #[] #[])
  clear S2'
  obtain ⟨W2, hW2⟩ : ∃ W, W = w2.alloc (.cells #[.string ⟨#[62]⟩, .func (.func 95) #[] #[]] 116) := ⟨_, rfl⟩
  rw [← hW2] at S1 ⊢
  clear hW2
  generalize w2.heap.size = g2 at S1 ⊢
  refine (cut62_none s m W2 hs ((S1.below.cell (p := ⟨0, 0, none⟩) hw0).trans hm) h.out).mono ?_
  rintro e w2 ⟨rfl, hb2⟩
  have S2' := S1.later hb2
  clear S1 hb2
  rw [strV]
  go_wp2_with fail
  rw [rounds_succ]
  go_wp2_with fail
  have S2 := S2'.next ⟨#[]⟩ (.func (.func 96) #[] #[])
  clear S2'
  obtain ⟨W3, hW3⟩ : ∃ W, W = w2.alloc (.cells #[.string ⟨#[]⟩, .func (.func 96) #[] #[]] 116) := ⟨_, rfl⟩
  rw [← hW3] at S2 ⊢
  clear hW3
  generalize w2.heap.size = g3 at S2 ⊢
  refine (termPart_any _ _ (by omega)).mono ?_
  rintro e w3 ⟨rfl, hb3⟩
  have S3 := S2.later hb3
  clear S2 hb3
  cases p1 : partB (trim s.data.toList)
  · have k0 := (S3.res.cell 0); have k1 := (S3.res.cell 1); have k2 := (S3.res.cell 2)
    have z0 := (S3.res.free 0); have z1 := (S3.res.free 1); have z2 := (S3.res.free 2)
    go_wp2
    refine bodyPost_ret (v := (.tuple #[.agg #[strV [], strV [], strV []], .bool false])) (by simp [results, Tryz.results47, go_sem, k0, k1, k2, strV]) rfl ?_
    refine ⟨congrArg Ending.returned ?_, ?_⟩
    · rw [show parseP s.data.toList = _ from hv.out, p1]; rfl
    · have S3b := S3.below
      go_grown
  · have q1 := S3.form.cell 1
    rw [strV]
    go_wp2_with fail
    clear q1
    refine (tell3_any _ _ _).mono ?_
    rintro e w5 ⟨rfl, hb5⟩
    have S5 := S3.later hb5
    have k0 := (S5.res.cell 0); have k1 := (S5.res.cell 1); have k2 := (S5.res.cell 2)
    have z0 := (S5.res.free 0); have z1 := (S5.res.free 1); have z2 := (S5.res.free 2)
    go_wp2
    refine bodyPost_ret (v := (.tuple #[.agg #[strV (trim s.data.toList), strV [], strV []], .bool true])) (by simp [results, Tryz.results47, go_sem, k0, k1, k2, strV]) rfl ?_
    refine ⟨congrArg Ending.returned ?_, ?_⟩
    · rw [show parseP s.data.toList = _ from hv.out, p1]; rfl
    · have S5b := S5.below
      go_grown
theorem parse_any (s : ByteArray) (m : Int) (w : World) (hs : s.size ≤ 9223372036854775807) (hm : w.cell? ⟨0, 0, none⟩ = some (.int .i64 m)) :
    Calls Tryz.prog 47 #[.string s] w fun e w' => e = .returned (parseP s.data.toList) ∧ Below w.heap.size w w' := by
  by_cases hl : 240 < s.size
  · exact parse_long s w hs hl
  · have h1 := first_le s.data.toList 59
    have h2 := first_le s.data.toList 62
    have hz := size_list s
    by_cases h : first s.data.toList 59 < s.size
    · exact parse_sub s m w (by omega) hm h
    · by_cases h' : first s.data.toList 62 < s.size
      · exact parse_see s m w (by omega) hm (by unfold Hid; omega) h'
      · exact parse_one s m w (by omega) hm (by unfold Hid; omega) (by unfold Hid; omega)
end Go.Proofs.YtmdbhdhfdldegaaGreatDoor
namespace Go.Bd
def blanks (u : Bs) : Prop := ∀ c ∈ u, blank c = true
theorem dropL_pad {u : Bs} (hu : blanks u) (l : Bs) : dropL (u ++ l) = dropL l := by
  unfold dropL
  induction u with
  | nil => rfl
  | cons x u ih =>
    rw [List.cons_append, List.dropWhile_cons_of_pos (hu x (List.mem_cons_self ..))]
    exact ih (fun c hc => hu c (List.mem_cons_of_mem _ hc))
theorem dropR_pad {v : Bs} (hv : blanks v) (l : Bs) : dropR (l ++ v) = dropR l := by
  unfold dropR
  rw [List.reverse_append]
  have := dropL_pad (u := v.reverse) (fun c hc => hv c (List.mem_reverse.1 hc)) l.reverse
  unfold dropL at this
  rw [this]
theorem trim_pad {u v : Bs} (hu : blanks u) (hv : blanks v) (l : Bs) : trim (u ++ l ++ v) = trim l := by
  rw [← dropLR, dropR_pad hv, dropLR]
  unfold trim
  rw [dropL_pad hu]
theorem trim_trim (l : Bs) : trim (trim l) = trim l := by
  have h1 : ∀ l : Bs, dropL (dropL l) = dropL l := by
    intro l; unfold dropL
    induction l with
    | nil => rfl
    | cons x l ih =>
      by_cases hx : blank x = true
      · rw [List.dropWhile_cons_of_pos hx]; exact ih
      · rw [List.dropWhile_cons_of_neg hx, List.dropWhile_cons_of_neg hx]
  have h2 : ∀ l : Bs, dropR (dropR l) = dropR l := by
    intro l; unfold dropR; rw [List.reverse_reverse]
    have := h1 l.reverse
    unfold dropL at this
    rw [this]
  have e : trim (trim l) = dropR (dropL (dropL (dropR l))) := by rw [dropLR]; rfl
  rw [e, h1, dropLR]
  show dropR (dropR (dropL l)) = dropR (dropL l)
  rw [h2]
theorem first_fresh {x y : Bs} {c : UInt8} (h : c ∉ x) : first (x ++ c :: y) c.toNat = x.length := by
  induction x with
  | nil => rw [List.nil_append, first_cons, if_pos rfl]; rfl
  | cons z x ih =>
    rw [List.cons_append, first_cons, if_neg (fun e => h (by rw [e]; exact List.mem_cons_self ..)), ih (fun m => h (List.mem_cons_of_mem _ m))]
    rfl
theorem first_not {x : Bs} {c : UInt8} (h : c ∉ x) : first x c.toNat = x.length := by
  induction x with
  | nil => rfl
  | cons z x ih =>
    rw [first_cons, if_neg (fun e => h (by rw [e]; exact List.mem_cons_self ..)), ih (fun m => h (List.mem_cons_of_mem _ m))]
    rfl
def clear (l : Bs) : Prop := ∀ c ∈ l, c ∉ signs
theorem partB_clear {l : Bs} (h : partB l = true) : clear l ∧ l ≠ [] := by
  rw [partB_signs] at h
  simp only [Bool.and_eq_true, Bool.not_eq_true', List.any_eq_false] at h
  refine ⟨fun c hc hs => h.2 c hc (by simpa using hs), fun e => by rw [e] at h; simp at h⟩
theorem clear_blanks {u : Bs} (h : blanks u) : clear u := by
  intro c hc hs
  have hb := h c hc
  simp only [signs, List.mem_cons, List.not_mem_nil, or_false] at hs
  rcases hs with rfl | rfl | rfl | rfl | rfl <;> exact absurd hb (by decide)
theorem clear_app {x y : Bs} (hx : clear x) (hy : clear y) : clear (x ++ y) := by
  intro c hc
  rcases List.mem_append.1 hc with h | h
  · exact hx c h
  · exact hy c h
theorem clear_of_trim {l : Bs} (h : clear (trim l)) : clear l := by
  intro c hc hs
  by_cases hb : blank c = true
  · simp only [signs, List.mem_cons, List.not_mem_nil, or_false] at hs
    rcases hs with rfl | rfl | rfl | rfl | rfl <;> exact absurd hb (by decide)
  · exact h c (mem_trim hc (by simpa using hb)) hs
theorem parseB_make1 {u a v : Bs} (hu : blanks u) (hv : blanks v) (ha : partB a = true) (ht : trim a = a) (hl : (u ++ a ++ v).length ≤ 240) : parseB (u ++ a ++ v) = some (a, [], []) := by
  have hc : clear (u ++ a ++ v) := clear_app (clear_app (clear_blanks hu) (partB_clear ha).1) (clear_blanks hv)
  have f1 := first_not (x := u ++ a ++ v) (c := 59) (fun m => hc _ m (by decide))
  have f2 := first_not (x := u ++ a ++ v) (c := 62) (fun m => hc _ m (by decide))
  rw [e59] at f1; rw [e62] at f2
  rw [parseB_one hl f1 f2, trim_pad hu hv, ht, if_pos ha]
theorem parseB_make2 {u a v u' b v' : Bs} (hu : blanks u) (hv : blanks v) (hu' : blanks u') (hv' : blanks v') (ha : partB a = true) (ht : trim a = a) (hb : partB b = true) (htb : trim b = b)
    (hl : ((u ++ a ++ v) ++ 59 :: (u' ++ b ++ v')).length ≤ 240) : parseB ((u ++ a ++ v) ++ 59 :: (u' ++ b ++ v')) = some (a, b, []) := by
  have hc : clear (u ++ a ++ v) := clear_app (clear_app (clear_blanks hu) (partB_clear ha).1) (clear_blanks hv)
  have f1 := first_fresh (x := u ++ a ++ v) (y := u' ++ b ++ v') (c := 59) (fun m => hc _ m (by decide))
  rw [e59] at f1
  have hx : ((u ++ a ++ v) ++ 59 :: (u' ++ b ++ v')).drop ((u ++ a ++ v).length + 1) = u' ++ b ++ v' := by
    rw [← List.drop_drop, List.drop_left]; rfl
  rw [parseB_sub hl (by rw [f1]; simp), f1, two, List.take_left, hx, trim_pad hu hv, ht, trim_pad hu' hv', htb, ha, hb]
  rfl
theorem parseB_make3 {u a v u' b v' : Bs} (hu : blanks u) (hv : blanks v) (hu' : blanks u') (hv' : blanks v') (ha : partB a = true) (ht : trim a = a) (hb : partB b = true) (htb : trim b = b)
    (hl : ((u ++ a ++ v) ++ 62 :: (u' ++ b ++ v')).length ≤ 240) : parseB ((u ++ a ++ v) ++ 62 :: (u' ++ b ++ v')) = some (a, [], b) := by
  have hc : clear (u ++ a ++ v) := clear_app (clear_app (clear_blanks hu) (partB_clear ha).1) (clear_blanks hv)
  have hc' : clear (u' ++ b ++ v') := clear_app (clear_app (clear_blanks hu') (partB_clear hb).1) (clear_blanks hv')
  have f0 := first_not (x := (u ++ a ++ v) ++ 62 :: (u' ++ b ++ v')) (c := 59) (fun m => by
    rcases List.mem_append.1 m with m | m
    · exact hc _ m (by decide)
    · rcases List.mem_cons.1 m with e | m
      · exact absurd e (by decide)
      · exact hc' _ m (by decide))
  have f1 := first_fresh (x := u ++ a ++ v) (y := u' ++ b ++ v') (c := 62) (fun m => hc _ m (by decide))
  rw [e59] at f0
  rw [e62] at f1
  have hx : ((u ++ a ++ v) ++ 62 :: (u' ++ b ++ v')).drop ((u ++ a ++ v).length + 1) = u' ++ b ++ v' := by
    rw [← List.drop_drop, List.drop_left]; rfl
  rw [parseB_see hl f0 (by rw [f1]; simp), f1, two, List.take_left, hx, trim_pad hu hv, ht, trim_pad hu' hv', htb, ha, hb]
  rfl
def Told (l a b c : Bs) : Prop :=
  (partB a = true ∧ trim a = a) ∧
  ((b = [] ∧ c = [] ∧ clear l ∧ a.length ≤ l.length) ∨
   (∃ x y, (partB b = true ∧ trim b = b) ∧ c = [] ∧ l = x ++ 59 :: y ∧ clear x ∧ clear y ∧ a.length ≤ x.length ∧ b.length ≤ y.length) ∨
   (∃ x y, (partB c = true ∧ trim c = c) ∧ b = [] ∧ l = x ++ 62 :: y ∧ clear x ∧ clear y ∧ a.length ≤ x.length ∧ c.length ≤ y.length))
theorem split_first {l : Bs} {c : UInt8} (h : first l c.toNat < l.length) : l = l.take (first l c.toNat) ++ c :: l.drop (first l c.toNat + 1) := by
  have := first_mem h
  conv => lhs; rw [← List.take_append_drop (first l c.toNat) l, List.drop_eq_getElem_cons h, this]
theorem parseB_told {l a b c : Bs} (h : parseB l = some (a, b, c)) : Told l a b c ∧ l.length ≤ 240 := by
  have hl : l.length ≤ 240 := by
    rcases Nat.lt_or_ge 240 l.length with hlt | hge
    · rw [parseB_long hlt] at h; cases h
    · exact hge
  refine ⟨?_, hl⟩
  have h1 := first_le l 59
  have h2 := first_le l 62
  by_cases f1 : first l 59 < l.length
  · rw [parseB_sub hl f1] at h
    split at h
    · rename_i ht
      simp only [Option.some.injEq, Prod.mk.injEq] at h
      obtain ⟨rfl, rfl, rfl⟩ := h
      simp only [two, Bool.and_eq_true] at ht
      have e := split_first (l := l) (c := 59) (by rw [e59]; exact f1)
      rw [e59] at e
      exact ⟨⟨ht.1, trim_trim _⟩, .inr (.inl ⟨_, _, ⟨ht.2, trim_trim _⟩, rfl, e, clear_of_trim (partB_clear ht.1).1, clear_of_trim (partB_clear ht.2).1, trim_le _, trim_le _⟩)⟩
    · cases h
  · by_cases f2 : first l 62 < l.length
    · rw [parseB_see hl (by omega) f2] at h
      split at h
      · rename_i ht
        simp only [Option.some.injEq, Prod.mk.injEq] at h
        obtain ⟨rfl, rfl, rfl⟩ := h
        simp only [two, Bool.and_eq_true] at ht
        have e := split_first (l := l) (c := 62) (by rw [e62]; exact f2)
        rw [e62] at e
        exact ⟨⟨ht.1, trim_trim _⟩, .inr (.inr ⟨_, _, ⟨ht.2, trim_trim _⟩, rfl, e, clear_of_trim (partB_clear ht.1).1, clear_of_trim (partB_clear ht.2).1, trim_le _, trim_le _⟩)⟩
      · cases h
    · rw [parseB_one hl (by omega) (by omega)] at h
      split at h
      · rename_i ht
        simp only [Option.some.injEq, Prod.mk.injEq] at h
        obtain ⟨rfl, rfl, rfl⟩ := h
        exact ⟨⟨ht, trim_trim _⟩, .inl ⟨rfl, rfl, clear_of_trim (partB_clear ht).1, trim_le _⟩⟩
      · cases h
theorem no_blanks : blanks [] := fun _ h => absurd h (by simp)
def textL (a b c : Bs) : Bs := a ++ ((if b = [] then [] else 59 :: b) ++ (if c = [] then [] else 62 :: c))
theorem told_again {l a b c : Bs} (h : parseB l = some (a, b, c)) : parseB (textL a b c) = some (a, b, c) ∧ (textL a b c).length ≤ l.length ∧ a ≠ [] ∧ (b = [] ∨ c = []) ∧ l.length ≤ 240 := by
  obtain ⟨⟨⟨ha, ht⟩, hr⟩, hl⟩ := parseB_told h
  have hn := (partB_clear ha).2
  rcases hr with ⟨rfl, rfl, _, hle⟩ | ⟨x, y, ⟨hb, htb⟩, rfl, rfl, _, _, h1, h2⟩ | ⟨x, y, ⟨hb, htb⟩, rfl, rfl, _, _, h1, h2⟩
  · have e : textL a [] [] = [] ++ a ++ [] := by simp [textL]
    rw [e]
    exact ⟨parseB_make1 no_blanks no_blanks ha ht (by simp; omega), by simpa using hle, hn, .inl rfl, hl⟩
  · have hbn := (partB_clear hb).2
    have e : textL a b [] = ([] ++ a ++ []) ++ 59 :: ([] ++ b ++ []) := by simp [textL, hbn]
    simp only [List.length_append, List.length_cons] at hl
    rw [e]
    exact ⟨parseB_make2 no_blanks no_blanks no_blanks no_blanks ha ht hb htb (by simp; omega), by simp; omega, hn, .inr rfl, by simp; omega⟩
  · have hbn := (partB_clear hb).2
    have e : textL a [] c = ([] ++ a ++ []) ++ 62 :: ([] ++ c ++ []) := by simp [textL, hbn]
    simp only [List.length_append, List.length_cons] at hl
    rw [e]
    exact ⟨parseB_make3 no_blanks no_blanks no_blanks no_blanks ha ht hb htb (by simp; omega), by simp; omega, hn, .inl rfl, by simp; omega⟩
def widen (l : Bs) : Bs := l.flatMap fun c => if c = 59 ∨ c = 62 then [32, 9, c, 32] else [c]
def signN (l : Bs) : Nat := (l.filter (signs.contains ·)).length
end Go.Bd
namespace Go.Proofs.YtmdbhdhfdldegaaGreatDoor
open Go.RowKit Go.Bd
theorem parseV_none {l : Bs} (h : parseB l = none) : parseV l = .tuple #[strV [], strV [], strV [], .int .i64 4] := by rw [parseV, h]
theorem parseV_some {l a b c : Bs} (h : parseB l = some (a, b, c)) : parseV l = .tuple #[strV a, strV b, strV c, .int .i64 0] := by rw [parseV, h]
theorem parseP_none {l : Bs} (h : parseB l = none) : parseP l = .tuple #[.agg #[strV [], strV [], strV []], .bool false] := by rw [parseP, h]; rfl
theorem parseP_some {l a b c : Bs} (h : parseB l = some (a, b, c)) : parseP l = .tuple #[.agg #[strV a, strV b, strV c], .bool true] := by rw [parseP, h]; rfl
set_option maxHeartbeats 400000 in
theorem Parse_any (s : ByteArray) (m : Int) (w : World) (hs : s.size ≤ 9223372036854775807) (hm : w.cell? ⟨0, 0, none⟩ = some (.int .i64 m)) :
    Calls Tryz.prog 78 #[.string s] w fun e w' => e = .returned (parseV s.data.toList) ∧ Below w.heap.size w w' := by
  have c := parse_any s m w hs hm
  cases hp : parseB s.data.toList with
  | none =>
    rw [parseP_none hp] at c
    rw [parseV_none hp]
    clear hp
    go_enter Tryz.func78, Tryz.ntmps78
    go_wp2_with (go_at_call 47; refine c.mono ?_; rintro e w1 ⟨rfl, hb⟩; rw [strV])
    go_returns
    exact ⟨rfl, hb.alloc hb.size _⟩
  | some t =>
    obtain ⟨x, y, z⟩ := t
    rw [parseP_some hp] at c
    rw [parseV_some hp]
    clear hp
    go_enter Tryz.func78, Tryz.ntmps78
    go_wp2_with (go_at_call 47; refine c.mono ?_; rintro e w1 ⟨rfl, hb⟩; rw [strV, strV, strV])
    go_quiet (fail)
    go_wp2
    go_returns
    exact ⟨rfl, Go.below_drewN (hb.alloc hb.size _) _⟩
end Go.Proofs.YtmdbhdhfdldegaaGreatDoor
namespace Go.Proofs.YtmdbhdhfdldegaaGreatDoor
open Go.RowKit Go.Bd
set_option maxRecDepth 100000 in
theorem term_any : AsOk 53 termS := by
  refine ⟨fun args w => by kernel_rfl, ?_⟩
  intro t w m ht hm
  have hm2 : (w.alloc (.cells #[.int .u8 0, .string ⟨#[]⟩, .string ⟨#[]⟩, .string ⟨#[]⟩, .slice none 0 0] 32)).cell? ⟨0, 0, none⟩ = some (.int .i64 m) := (World.cell?_of_block (Below.heap_alloc w _ 0 (World.block_lt_of_cell? w _ hm))).trans hm
  have cp := Parse_any t m _ (by omega) hm2
  have HW : Hid (0 < w.heap.size) := World.block_lt_of_cell? w _ hm
  unfold termS
  cases hp : parseB t.data.toList with
  | none =>
    have e : parseV t.data.toList = .tuple #[.string ⟨#[]⟩, .string ⟨#[]⟩, .string ⟨#[]⟩, .int .i64 4] := by unfold parseV; rw [hp]; rfl
    rw [e] at cp
    clear e hp
    go_enter Tryz.func53, Tryz.ntmps53
    go_wp2_with fail
    refine cp.mono ?_
    clear cp
    rintro e w1 ⟨rfl, hb⟩
    have hX : Holds w1 w.heap.size 32 #[.int .u8 0, .string ⟨#[]⟩, .string ⟨#[]⟩, .string ⟨#[]⟩, .slice none 0 0] := (hb.block _ (by simp)).trans (Holds.new w _ _)
    have c0 := hX.cell 0
    have c1 := hX.cell 1
    have c2 := hX.cell 2
    have c3 := hX.cell 3
    have c4 := hX.cell 4
    have f0 := hX.free 0
    have f1 := hX.free 1
    have f2 := hX.free 2
    have f3 := hX.free 3
    have f4 := hX.free 4
    have HX := Lib.hid hX
    clear hX
    go_wp2
    have hR := ((((HX.out.set 0 (.int .u8 0)).set 1 (.string ⟨#[]⟩)).set 2 (.string ⟨#[]⟩)).set 3 (.string ⟨#[]⟩)).set 4 (.slice none 0 0)
    have hR2 : Holds _ w.heap.size 32 #[.int .u8 0, .string ⟨#[]⟩, .string ⟨#[]⟩, .string ⟨#[]⟩, .slice none 0 0] := hR
    (try simp only [Exit.inBlock, Exit.then])
    refine bodyPost_ret (results_row_tmp rfl _ _ w.heap.size _ _ _ _ rfl hR2 Tryz.underlying32 rfl span_size) rfl ?_
    have hbw : Below w.heap.size w w1 := ((Below.refl _ _).alloc (Nat.le_refl _) _).trans (hb.mono (by simp))
    exact ⟨rfl, ((((hbw.setCell (Nat.le_refl _) _).setCell (Nat.le_refl _) _).setCell (Nat.le_refl _) _).setCell (Nat.le_refl _) _).setCell (Nat.le_refl _) _⟩
  | some v =>
    obtain ⟨a, b, c⟩ := v
    have e : parseV t.data.toList = .tuple #[strV a, strV b, strV c, .int .i64 0] := by unfold parseV; rw [hp]
    rw [e] at cp
    clear e hp
    unfold strV at cp
    go_enter Tryz.func53, Tryz.ntmps53
    go_wp2_with fail
    refine cp.mono ?_
    clear cp
    rintro e w1 ⟨rfl, hb⟩
    have hX : Holds w1 w.heap.size 32 #[.int .u8 0, .string ⟨#[]⟩, .string ⟨#[]⟩, .string ⟨#[]⟩, .slice none 0 0] := (hb.block _ (by simp)).trans (Holds.new w _ _)
    have c0 := hX.cell 0
    have c1 := hX.cell 1
    have c2 := hX.cell 2
    have c3 := hX.cell 3
    have c4 := hX.cell 4
    have f0 := hX.free 0
    have f1 := hX.free 1
    have f2 := hX.free 2
    have f3 := hX.free 3
    have f4 := hX.free 4
    have HX := Lib.hid hX
    clear hX
    go_wp2
    have hR := ((((HX.out.set 0 (.int .u8 5)).set 1 (.string ⟨a.toArray⟩)).set 2 (.string ⟨b.toArray⟩)).set 3 (.string ⟨c.toArray⟩)).set 4 (.slice none 0 0)
    have hR2 : Holds _ w.heap.size 32 #[.int .u8 5, .string ⟨a.toArray⟩, .string ⟨b.toArray⟩, .string ⟨c.toArray⟩, .slice none 0 0] := hR
    (try simp only [Exit.inBlock, Exit.then])
    refine bodyPost_ret (results_row_tmp rfl _ _ w.heap.size _ _ _ _ rfl hR2 Tryz.underlying32 rfl span_size) rfl ?_
    have hbw : Below w.heap.size w w1 := ((Below.refl _ _).alloc (Nat.le_refl _) _).trans (hb.mono (by simp))
    exact ⟨rfl, ((((hbw.setCell (Nat.le_refl _) _).setCell (Nat.le_refl _) _).setCell (Nat.le_refl _) _).setCell (Nat.le_refl _) _).setCell (Nat.le_refl _) _⟩
end Go.Proofs.YtmdbhdhfdldegaaGreatDoor
namespace Go.Proofs.YtmdbhdhfdldegaaGreatDoor
open Go.RowKit Go.Bd
section
variable {w : World} {B : Nat} {col : Nat → Nat} {pb ob cap len : Nat} {s : ByteArray} {st : Pst} {i : Nat} {fv : Value} {gb : Nat} {cs : Array Value} {gn : List Bs}
theorem getD_getN (s : ByteArray) (i : Nat) (h : i < s.size) : s.data.toList.getD i 0 = s[i] := by
  have e : s[i] = s.data.toList[i]'(by simpa using h) := by first | rfl | simp [ByteArray.getElem_eq_getElem_data]
  rw [e, List.getD_eq_getElem?_getD, List.getElem?_eq_getElem (by simpa using h)]
  rfl
theorem psAt (h : PSx Tryz.prog w B col pb ob cap len s st i fv gb cs gn) (n : Nat) (hn : n < st.fs.length) : w.cell? ⟨ob, n * 5 + 4, none⟩ = some (.int .i64 (atOf st.fs n : Int)) := by
  obtain ⟨f, hf⟩ : ∃ f, st.fs.reverse[n]? = some f := ⟨_, List.getElem?_eq_getElem (by simpa using hn)⟩
  obtain ⟨sv, tv, hfr⟩ := h.fr n f hf
  unfold atOf
  rw [hf]
  exact (frame_cells hfr h.ho).2.2.2.2
theorem one_list (s : ByteArray) (i : Nat) (h : i < s.size) : (s.extract i (i + 1)).data.toList = [s.data.toList.getD i 0] := by
  have hl : i < s.data.toList.length := by simpa using h
  rw [cut_list, Nat.add_sub_cancel_left, List.getD_eq_getElem?_getD, List.getElem?_eq_getElem hl, List.drop_eq_getElem_cons hl]
  simp
theorem writeLen (st : Pst) (x : Bs) : (st.write x).fs.length = st.fs.length := onTop_length (·.write x) st.fs
theorem tellLen (st : Pst) (a f : Nat) : (st.tell a f).fs.length = st.fs.length := rfl
theorem beginLen (st : Pst) (k a : Nat) (x : Bs) : (st.begin k a x).fs.length = st.fs.length + 1 := rfl
theorem finLen {st : Pst} {i0 n : Nat} (hI : Inv st i0) (h0 : 0 < n) (hn : n < st.fs.length) : (st.fin n).fs.length = n := by
  have h2 := (hI.drop hn).2
  unfold Pst.fin
  generalize st.drop n = sd at h2
  obtain ⟨fs, fa⟩ := sd
  match fs, h2 with
  | f :: r, h2 =>
    simp only [Pst.shut, onTop_length]
    simpa using h2
set_option maxRecDepth 100000 in
set_option maxHeartbeats 2000000 in
theorem mark_any (h : PSx Tryz.prog w B col pb ob cap len s st i fv gb cs gn) (hl : len = st.fs.length) (hI : Inv st i) (hi : i < s.size) (hs : s.size ≤ 100000) (k : Nat) :
    Calls Tryz.prog 59 #[.pointer (some ⟨pb, 0, none⟩), .int .i64 (i : Int), .int .u8 (k : Int)] w fun e w' => e = .returned (.tuple #[]) ∧
      ∃ col' ob' cap' fv' cs', PSx Tryz.prog w' B col' pb ob' cap' (st.mark s.data.toList i k).fs.length s (st.mark s.data.toList i k) i fv' gb cs' gn ∧ Stay B w w' col col' := by
  have h17 := hI.2.2.2
  have h1 := hI.2.2.1
  have c0 := h.hp.cell 0
  have c1 := h.hp.cell 1
  have e1 : IntKind.i64.wrap ((i : Int) + 1) = (i : Int) + 1 := IntWalk.i64_in _ (by omega)
  have e2 : IntKind.i64.wrap ((i : Int) - 1) = (i : Int) - 1 := IntWalk.i64_in _ (by omega)
  have e3 : ((i : Int) - 1).toNat = i - 1 := by omega
  have hla : lastK k st.fs < len := by rw [hl]; rcases lastK_lt k st.fs with h0 | h0 <;> omega
  have HLA := psAt h (lastK k st.fs) (by omega)
  have cl := last_any h hl (by omega) (by omega) k
  have cr := room_any h hl (by omega) (by omega)
  have HMK : Hid (st.mark s.data.toList i k = if lastK k st.fs > 0 ∧ atOf st.fs (lastK k st.fs) + 1 ≠ i ∧ 0 < i ∧ Bd.blank (s.data.toList.getD (i - 1) 0) = false ∧ ¬ (i + 1 < s.data.toList.length ∧ solid (s.data.toList.getD (i + 1) 0) = true) then st.fin (lastK k st.fs)
    else if (0 < i ∧ solid (s.data.toList.getD (i - 1) 0) = true) ∨ s.data.toList.length ≤ i + 1 ∨ Bd.blank (s.data.toList.getD (i + 1) 0) = true then st.write [s.data.toList.getD i 0]
    else if st.room = false then (st.write [s.data.toList.getD i 0]).tell i 7
    else st.begin k i [s.data.toList.getD i 0]) := rfl
  obtain ⟨f, r, hfs⟩ : ∃ f r, st.fs = f :: r := by
    match hq : st.fs, hI.2.2.1 with
    | f :: r, _ => exact ⟨f, r, rfl⟩
    | [], hq2 => simp at hq2
  have hftx : f.row.tx.length ≤ 100000 := by
    have := hI.1
    rw [hfs, wtFs_cons] at this
    unfold wtF wtR at this
    omega
  have hflt : st.faults.length ≤ 10000000 := by have := hI.2.1; omega
  have HFS := Lib.hid hfs
  have HL := Lib.hid hl
  have HLR : Hid (len = r.length + 1) := by unfold Hid; rw [hl, hfs]; rfl
  have HLL := HLR.out
  have HI := Lib.hid hI
  have HN : Hid (st.fs.length = st.fs.length) := rfl
  generalize hlk : lastK k st.fs = n at hla HLA cl HMK
  generalize hrm : st.room = rm at cr HMK
  generalize hat : atOf st.fs n = at' at HLA HMK
  have cbp : ∀ (h : i - 1 < s.size) w, Calls Tryz.prog 79 #[.int .u8 ((s[i - 1]'h).toNat : Int)] w fun e w' => e = .returned (.bool (Bd.blank (s.data.toList.getD (i - 1) 0))) ∧ w = w' := fun h w => by
    rw [getD_getN s (i - 1) h]; exact blank_any _ w
  have cbn : ∀ (h : i + 1 < s.size) w, Calls Tryz.prog 79 #[.int .u8 ((s[i + 1]'h).toNat : Int)] w fun e w' => e = .returned (.bool (Bd.blank (s.data.toList.getD (i + 1) 0))) ∧ w = w' := fun h w => by
    rw [getD_getN s (i + 1) h]; exact blank_any _ w
  have csp : ∀ (h : i - 1 < s.size) w, Calls Tryz.prog 80 #[.int .u8 ((s[i - 1]'h).toNat : Int)] w fun e w' => e = .returned (.bool (solid (s.data.toList.getD (i - 1) 0))) ∧ w = w' := fun h w => by
    rw [getD_getN s (i - 1) h]; exact solid_any _ w
  have csn : ∀ (h : i + 1 < s.size) w, Calls Tryz.prog 80 #[.int .u8 ((s[i + 1]'h).toNat : Int)] w fun e w' => e = .returned (.bool (solid (s.data.toList.getD (i + 1) 0))) ∧ w = w' := fun h w => by
    rw [getD_getN s (i + 1) h]; exact solid_any _ w
  rw [show s.data.toList.length = s.size by simp] at HMK
  generalize Bd.blank (s.data.toList.getD (i - 1) 0) = bp at cbp HMK
  generalize Bd.blank (s.data.toList.getD (i + 1) 0) = bn at cbn HMK
  generalize solid (s.data.toList.getD (i - 1) 0) = sp at csp HMK
  generalize solid (s.data.toList.getD (i + 1) 0) = sn at csn HMK
  have H := Lib.hid h
  have hr17 : r.length ≤ 17 := by omega
  clear h hl hI h17 h1 hfs HLL
  go_enter Tryz.func59, Tryz.ntmps59
  go_wp2_with (first
    | (go_at_call 79; (first | with_reducible refine (cbp (by omega) _).mono ?_ | with_reducible refine (cbn (by omega) _).mono ?_); rintro e w' ⟨rfl, rfl⟩)
    | (go_at_call 80; (first | with_reducible refine (csp (by omega) _).mono ?_ | with_reducible refine (csn (by omega) _).mono ?_); rintro e w' ⟨rfl, rfl⟩)
    | (go_at_call 57; refine cl.mono ?_; rintro e w' ⟨rfl, rfl⟩)
    | (go_at_call 54; refine cr.mono ?_; rintro e w' ⟨rfl, rfl⟩)
    | fail)
  all_goals clear c0 c1 cbp cbn csp csn cl cr
  all_goals try (exact absurd (‹sp = true›.symm.trans ‹sp = false›) (by decide))
  all_goals try (exact absurd (‹(!decide ((i : Int) + 1 < (s.size : Int))) = true›.symm.trans ‹(!decide ((i : Int) + 1 < (s.size : Int))) = false›) (by decide))
  all_goals try (exact absurd (‹bn = true›.symm.trans ‹bn = false›) (by decide))
  all_goals try (exact absurd (‹bp = true›.symm.trans ‹bp = false›) (by decide))
  all_goals try (exfalso; have hq := ‹(!decide ((i : Int) + 1 < (s.size : Int))) = false›; simp only [Bool.not_eq_false', decide_eq_true_eq] at hq; omega)
  all_goals first
    | (have hm : st.mark s.data.toList i k = st.write [s.data.toList.getD i 0] := by
        rw [HMK.out, if_neg (fun hc => by
          obtain ⟨p1, p2, p3, p4, p5⟩ := hc
          first
            | omega
            | exact absurd (p4.symm.trans ‹bp = true›) (by decide)
            | (have hq := ‹((at' : Int) != (i : Int) - 1) = false ∨ (!sn) = false›
               rcases hq with hq | hq
               · simp only [bne_eq_false_iff_eq] at hq; omega
               · exact p5 ⟨by omega, by simpa using hq⟩)), if_pos (by
          first
            | exact .inl ⟨by omega, ‹sp = true›⟩
            | exact .inr (.inr ‹bn = true›)
            | exact .inr (.inl (by omega))
            | (have hq := ‹(!decide ((i : Int) + 1 < (s.size : Int))) = true›; simp only [Bool.not_eq_true', decide_eq_false_iff_not] at hq; exact .inr (.inl (by omega))))]
       refine (top_any (n := r.length) (by rw [← HLR.out]; exact H.out) (by omega)).mono ?_
       rintro e w2 ⟨rfl, kk, rfl⟩
       go_wp2_with fail
       refine (writeTop_any (PSx.drewN H.out kk) HFS.out (s.extract i (i + 1)) (by simp; omega) (by omega)).mono ?_
       rintro e w3 ⟨rfl, col3, cs3, h3, st3⟩
       rw [one_list s i hi] at h3
       have H3 := Lib.hid h3
       have ST3 := Lib.hid st3.undrew
       clear h3 st3
       go_wp2
       go_end0
       exact ⟨rfl, col3, ob, cap, fv, cs3, by rw [hm, writeLen, ← HL.out]; exact H3.out, ST3.out⟩)
    | (have hrf : rm = false := by simpa using ‹(!rm) = true›
       have hm : st.mark s.data.toList i k = (st.write [s.data.toList.getD i 0]).tell i 7 := by
        rw [HMK.out, if_neg (fun hc => by
          obtain ⟨p1, p2, p3, p4, p5⟩ := hc
          first
            | omega
            | exact absurd (p4.symm.trans ‹bp = true›) (by decide)
            | (have hq := ‹((at' : Int) != (i : Int) - 1) = false ∨ (!sn) = false›
               rcases hq with hq | hq
               · simp only [bne_eq_false_iff_eq] at hq; omega
               · exact p5 ⟨by omega, by simpa using hq⟩)), if_neg (fun hc => by
          rcases hc with ⟨q1, q2⟩ | q1 | q1
          · first
              | omega
              | exact absurd (q2.symm.trans ‹sp = false›) (by decide)
          · omega
          · exact absurd (q1.symm.trans ‹bn = false›) (by decide)), if_pos hrf]
       refine (top_any (n := r.length) (by rw [← HLR.out]; exact H.out) (by omega)).mono ?_
       rintro e w2 ⟨rfl, kk, rfl⟩
       go_wp2_with fail
       refine (writeTop_any (PSx.drewN H.out kk) HFS.out (s.extract i (i + 1)) (by simp; omega) (by omega)).mono ?_
       rintro e w3 ⟨rfl, col3, cs3, h3, st3⟩
       rw [one_list s i hi] at h3
       have H3 := Lib.hid h3
       have ST3 := Lib.hid st3.undrew
       clear h3 st3
       go_wp2_with fail
       refine (tell_any H3.out i 7 hflt).mono ?_
       rintro e w4 ⟨rfl, col4, fv4, h4, st4⟩
       have H4 := Lib.hid h4
       have ST4 := Lib.hid (ST3.out.trans st4)
       clear h4 st4
       go_wp2
       go_end0
       exact ⟨rfl, col4, ob, cap, fv4, cs3, by rw [hm, tellLen, writeLen, ← HL.out]; exact H4.out, ST4.out⟩)
    | (have hrt : rm = true := by simpa using ‹(!rm) = false›
       have hm : st.mark s.data.toList i k = st.begin k i [s.data.toList.getD i 0] := by
        rw [HMK.out, if_neg (fun hc => by
          obtain ⟨p1, p2, p3, p4, p5⟩ := hc
          first
            | omega
            | exact absurd (p4.symm.trans ‹bp = true›) (by decide)
            | (have hq := ‹((at' : Int) != (i : Int) - 1) = false ∨ (!sn) = false›
               rcases hq with hq | hq
               · simp only [bne_eq_false_iff_eq] at hq; omega
               · exact p5 ⟨by omega, by simpa using hq⟩)), if_neg (fun hc => by
          rcases hc with ⟨q1, q2⟩ | q1 | q1
          · first
              | omega
              | exact absurd (q2.symm.trans ‹sp = false›) (by decide)
          · omega
          · exact absurd (q1.symm.trans ‹bn = false›) (by decide)), if_neg (by rw [hrt]; decide)]
       have cbg := begin_any H.out HL.out (by have := HLR.out; omega) k i [s.data.toList.getD i 0]
       have hsg : (⟨[s.data.toList.getD i 0].toArray⟩ : ByteArray) = s.extract i (i + 1) := by rw [← one_list s i hi]
       rw [hsg] at cbg
       refine cbg.mono ?_
       clear cbg
       rintro e w2 ⟨rfl, col2, ob2, cap2, cs2, h2, st2⟩
       have H2 := Lib.hid h2
       have ST2 := Lib.hid st2
       clear h2 st2
       go_wp2
       go_end0
       exact ⟨rfl, col2, ob2, cap2, fv, cs2, by rw [hm, beginLen, ← HL.out]; exact H2.out, ST2.out⟩)
    | (have hm : st.mark s.data.toList i k = st.fin n := by
        rw [HMK.out, if_pos ⟨by omega, by
          first
            | omega
            | (have hq := ‹((at' : Int) != (i : Int) - 1) = true›; simp only [bne_iff_ne, ne_eq] at hq; omega), by omega, (by first | assumption | (have hq := ‹¬bp = true›; simpa using hq)), fun hc => by
          first
            | omega
            | exact absurd (hc.2.symm.trans ‹sn = false›) (by decide)
            | (have hq := (‹((at' : Int) != (i : Int) - 1) = true ∧ (!sn) = true›).2; simp only [Bool.not_eq_true'] at hq; exact absurd (hc.2.symm.trans hq) (by decide))
            | (have hq := ‹(!sn) = true›; simp only [Bool.not_eq_true'] at hq; exact absurd (hc.2.symm.trans hq) (by decide))⟩]
       refine (end_any H.out HL.out n (by omega) hla i HI.out (by omega)).mono ?_
       rintro e w2 ⟨rfl, col2, fv2, cs2, h2, st2⟩
       have H2 := Lib.hid h2
       have ST2 := Lib.hid st2
       clear h2 st2
       go_wp2
       (try simp only [Exit.inBlock, Exit.then])
       refine bodyPost_ret (results_none rfl _ _ _) rfl ?_
       have hfl := finLen HI.out (n := n) (by omega) (by rw [← HL.out]; exact hla)
       exact ⟨rfl, col2, ob, cap, fv2, cs2, by rw [hm, hfl]; exact H2.out, ST2.out⟩)
end
end Go.Proofs.YtmdbhdhfdldegaaGreatDoor
namespace Go.Bd
def plainC (c : UInt8) : Bool := !(c == 42 || c == 95 || c == 60 || c == 40 || c == 94 || c == 93 || c == 92 || c == 96)
theorem drop_cons {s : Bs} {i : Nat} (h : i < s.length) : s.drop i = s.getD i 0 :: s.drop (i + 1) := by
  rw [List.drop_eq_getElem_cons h, List.getD_eq_getElem?_getD, List.getElem?_eq_getElem h]; rfl
theorem pre_ne {a b : UInt8} {s : Bs} {i : Nat} (hi : i < s.length) (h : s.getD i 0 ≠ a) : [a, b].isPrefixOf (s.drop i) = false := by
  rw [drop_cons hi, List.isPrefixOf]
  have : (a == s.getD i 0) = false := by simpa using fun e => h e.symm
  rw [this]; rfl
theorem run_end {s : Bs} {n i : Nat} (st : Pst) (h : s.length ≤ i) : runP s n i st = st := by
  cases n with
  | zero => rfl
  | succ n => rw [runP, if_neg (by omega)]
theorem run_fuel {s : Bs} : ∀ (n m i : Nat) (st : Pst), Inv st i → s.length - i ≤ n → s.length - i ≤ m → runP s n i st = runP s m i st
  | 0, m, i, st, _, h1, _ => by rw [run_end st (by omega), run_end st (by omega)]
  | n + 1, 0, i, st, _, _, h2 => by rw [run_end st (by omega), run_end st (by omega)]
  | n + 1, m + 1, i, st, hI, h1, h2 => by
    rw [runP, runP]
    split
    · rename_i hi
      obtain ⟨h3, h4, h5⟩ := hI.step hi
      exact run_fuel n m _ _ h3 (by omega) (by omega)
    · rfl
theorem run_step {s : Bs} {n i : Nat} {st : Pst} (hI : Inv st i) (hi : i < s.length) (hn : s.length - i ≤ n) : runP s n i st = runP s n (st.step s i).2 (st.step s i).1 := by
  obtain ⟨n, rfl⟩ : ∃ k, n = k + 1 := ⟨n - 1, by omega⟩
  obtain ⟨h3, h4, h5⟩ := hI.step hi
  rw [runP, if_pos hi]
  exact run_fuel _ _ _ _ h3 (by omega) (by omega)
theorem Inv.run {s : Bs} : ∀ (n i : Nat) (st : Pst), Inv st i → i ≤ s.length → s.length - i ≤ n → Inv (runP s n i st) s.length
  | 0, i, st, h, hi, hn => by rw [run_end st (by omega)]; exact h.more hi
  | n + 1, i, st, h, hi, hn => by
    rw [runP]
    split
    · rename_i hlt
      obtain ⟨h3, h4, h5⟩ := h.step hlt
      exact Inv.run n _ _ h3 h5 (by omega)
    · exact h.more hi
end Go.Bd
namespace Go.Bd
mutual
def say1 : Sp → Bs
  | ⟨k, t, _, _, kids⟩ => if k = 0 ∨ k = 3 ∨ k = 4 ∨ k = 5 then t else if k = 1 ∨ k = 2 then sayL kids else []
def sayL : List Sp → Bs
  | [] => []
  | x :: l => say1 x ++ sayL l
end
mutual
def snd1 : Sp → Nat → Bool
  | ⟨k, t, u, v, kids⟩, d => decide (k ≤ 6) && !(decide (k = 0) && t.isEmpty) &&
      (if k = 1 ∨ k = 2 ∨ k = 6 then t.isEmpty && !decide (d = 16) && sndL kids (d + 1) 1 else kids.isEmpty) &&
      (decide (k = 5) || (u.isEmpty && v.isEmpty)) && !((decide (k = 1) || decide (k = 2)) && kids.isEmpty)
def sndL : List Sp → Nat → Nat → Bool
  | [], _, _ => true
  | x :: l, d, p => snd1 x d && !(decide (x.kind = 0) && decide (p = 0)) && sndL l d x.kind
end
def lastKind (l : List Sp) (p : Nat) : Nat := match l.getLast? with | some x => x.kind | none => p
theorem lastKind_cons (x : Sp) (l : List Sp) (p : Nat) : lastKind (x :: l) p = lastKind l x.kind := by
  cases l with
  | nil => rfl
  | cons y l =>
    simp only [lastKind, List.getLast?_cons_cons]
    cases h : (y :: l).getLast? with
    | none => simp at h
    | some z => rfl
theorem lastKind_snoc (l : List Sp) (x : Sp) (p : Nat) : lastKind (l ++ [x]) p = x.kind := by simp [lastKind]
theorem sndL_snoc : ∀ (l : List Sp) (x : Sp) (d p : Nat), sndL (l ++ [x]) d p = (sndL l d p && (snd1 x d && !(decide (x.kind = 0) && decide (lastKind l p = 0))))
  | [], x, d, p => by simp only [List.nil_append, sndL, lastKind, List.getLast?_nil, Bool.and_true, Bool.true_and]; rfl
  | y :: l, x, d, p => by
    rw [List.cons_append, sndL, sndL, sndL_snoc l x d y.kind, lastKind_cons]
    simp only [Bool.and_assoc]
theorem sayL_app : ∀ (a b : List Sp), sayL (a ++ b) = sayL a ++ sayL b
  | [], b => by simp [sayL]
  | x :: a, b => by rw [List.cons_append, sayL, sayL, sayL_app a b, List.append_assoc]
theorem say_txt (s : Bs) : say1 (txt s) = s := by simp [txt, say1]
def sayR (r : Rw) : Bs := sayL r.sp ++ r.tx
theorem sayR_write (r : Rw) (s : Bs) : sayR (r.write s) = sayR r ++ s := by simp [sayR, Rw.write]
theorem sayR_flush (r : Rw) : sayR r.flush = sayR r := by
  unfold Rw.flush
  split
  · rename_i h; simp [sayR, h]
  · simp [sayR, sayL_app, sayL, say_txt]
theorem flush_tx (r : Rw) : r.flush.tx = [] := by unfold Rw.flush; split <;> rfl
theorem sayL_flush (r : Rw) : sayL r.flush.sp = sayR r := by
  rw [← sayR_flush, sayR, flush_tx, List.append_nil]
theorem say1_text {x : Sp} (h : x.kind = 0) : say1 x = x.text := by obtain ⟨k, t, u, v, ks⟩ := x; simp only at h; subst h; simp [say1]
theorem sayR_add (r : Rw) (x : Sp) : sayR (r.add x) = sayR r ++ say1 x := by
  unfold Rw.add
  split
  · rename_i h; rw [sayR_write, say1_text h]
  · simp [sayR, sayL_app, sayL]
    rw [sayL_flush]; simp [sayR]
theorem sayR_adds : ∀ (l : List Sp) (r : Rw), sayR (l.foldl Rw.add r) = sayR r ++ sayL l
  | [], r => by simp [sayL]
  | x :: l, r => by rw [List.foldl_cons, sayR_adds l, sayR_add, sayL, List.append_assoc]
theorem sayR_spill (f : Fr) (r : Rw) : sayR (spill f r) = sayR r ++ f.sign ++ sayR f.row := by
  rw [spill, sayR_write, sayR_adds, sayR_write]; simp [sayR]
def rowOk (r : Rw) (d : Nat) : Prop := sndL r.sp d 1 = true ∧ lastKind r.sp 1 ≠ 0
theorem snd_txt {s : Bs} (h : s ≠ []) (d : Nat) : snd1 (txt s) d = true := by
  cases s with
  | nil => exact absurd rfl h
  | cons a s => simp [txt, snd1]
theorem rowOk.none (d : Nat) : rowOk Rw.none d := by simp [rowOk, Rw.none, sndL, lastKind]
theorem rowOk.write {r : Rw} {d : Nat} (h : rowOk r d) (s : Bs) : rowOk (r.write s) d := h
theorem rowOk.flush {r : Rw} {d : Nat} (h : rowOk r d) : sndL r.flush.sp d 1 = true := by
  unfold Rw.flush
  split
  · exact h.1
  · rename_i hn
    simp only
    rw [sndL_snoc, h.1, snd_txt hn]
    simp [h.2]
theorem rowOk.add {r : Rw} {d : Nat} (h : rowOk r d) {x : Sp} (hx : x.kind = 0 ∨ snd1 x d = true) : rowOk (r.add x) d := by
  unfold Rw.add
  split
  · exact h
  · rename_i hk
    have hs : snd1 x d = true := by
      rcases hx with h | h
      · exact absurd h hk
      · exact h
    refine ⟨?_, ?_⟩
    · simp only
      rw [sndL_snoc, h.flush, hs]
      simp [hk]
    · simp only
      rw [lastKind_snoc]; exact hk
mutual
theorem snd1_up : ∀ (x : Sp) (d : Nat), d + 1 ≤ 16 → snd1 x (d + 1) = true → snd1 x d = true
  | ⟨k, t, u, v, kids⟩, d, hd, h => by
    simp only [snd1, Bool.and_eq_true] at h ⊢
    obtain ⟨⟨⟨h1, h2⟩, h3⟩, h4⟩ := h
    refine ⟨⟨⟨h1, ?_⟩, h3⟩, h4⟩
    split
    · rename_i hk
      rw [if_pos hk] at h2
      simp only [Bool.and_eq_true, Bool.not_eq_true', decide_eq_false_iff_not] at h2 ⊢
      obtain ⟨⟨h5, h6⟩, h7⟩ := h2
      exact ⟨⟨h5, by omega⟩, sndL_up kids (d + 1) 1 (by omega) h7⟩
    · rename_i hk
      rw [if_neg hk] at h2
      exact h2
theorem sndL_up : ∀ (l : List Sp) (d p : Nat), d + 1 ≤ 16 → sndL l (d + 1) p = true → sndL l d p = true
  | [], _, _, _, _ => rfl
  | x :: l, d, p, hd, h => by
    simp only [sndL, Bool.and_eq_true] at h ⊢
    exact ⟨⟨snd1_up x d hd h.1.1, h.1.2⟩, sndL_up l d x.kind hd h.2⟩
end
theorem rowOk.adds {d : Nat} : ∀ {l : List Sp} {p : Nat} {r : Rw}, rowOk r d → sndL l d p = true → rowOk (l.foldl Rw.add r) d
  | [], _, _, h, _ => h
  | x :: l, p, r, h, hl => by
    simp only [sndL, Bool.and_eq_true] at hl
    rw [List.foldl_cons]
    exact rowOk.adds (l := l) (h.add (.inr hl.1.1)) hl.2
theorem rowOk.spill {f : Fr} {r : Rw} {d : Nat} (hf : rowOk f.row (d + 1)) (h : rowOk r d) (hd : d + 1 ≤ 16) : rowOk (spill f r) d :=
  ((h.write f.sign).adds (sndL_up _ _ _ hd hf.1)).write f.row.tx
def Rw.has (r : Rw) : Prop := r.sp ≠ [] ∨ r.tx ≠ []
theorem has_write {r : Rw} {s : Bs} (h : r.has ∨ s ≠ []) : (r.write s).has := by
  rcases h with (h | h) | h
  · exact .inl h
  · exact .inr (by simp [Rw.write, h])
  · exact .inr (by simp [Rw.write, h])
theorem has_add {r : Rw} {x : Sp} (h : r.has ∨ x.kind ≠ 0 ∨ x.text ≠ []) : (r.add x).has := by
  unfold Rw.add
  split
  · rename_i hk
    exact has_write (by rcases h with h | h | h; exact .inl h; exact absurd hk h; exact .inr h)
  · exact .inl (by simp)
theorem has_adds : ∀ {l : List Sp} {r : Rw}, r.has → (l.foldl Rw.add r).has
  | [], _, h => h
  | x :: l, r, h => by rw [List.foldl_cons]; exact has_adds (l := l) (has_add (.inl h))
theorem has_spill {f : Fr} {r : Rw} (h : f.sign ≠ []) : (spill f r).has := has_write (.inl (has_adds (has_write (.inr h))))
theorem has_flush {r : Rw} (h : r.has) : r.flush.sp ≠ [] := by
  unfold Rw.flush
  split
  · rename_i ht
    rcases h with h | h
    · exact h
    · exact absurd ht h
  · simp
def frOk : List Fr → Nat → Prop
  | [], n => n = 0
  | f :: r, n => rowOk f.row r.length ∧ (r ≠ [] → (f.kind = 1 ∨ f.kind = 2 ∨ f.kind = 6) ∧ f.sign ≠ [] ∧ (f.kind ≠ 6 → f.sign.length = 1)) ∧ ∃ m, frOk r m ∧ n = (sayR f.row).length + f.sign.length + m
structure Snd (st : Pst) (i : Nat) : Prop where
  n1 : 1 ≤ st.fs.length
  n17 : st.fs.length ≤ 17
  fr : ∃ n, frOk st.fs n ∧ n ≤ i
  top : ∀ f r, st.fs = f :: r → r ≠ [] → f.kind ≠ 6 → f.at' + 1 = i ∨ f.row.has
  fa : ∀ p ∈ st.faults, p.2 = 7 ∨ p.2 = 8 ∨ p.2 = 10
theorem Snd.first : Snd Pst.first 0 := by
  refine ⟨by simp [Pst.first], by simp [Pst.first], ⟨0, ?_, Nat.le_refl _⟩, ?_, ?_⟩
  · exact ⟨rowOk.none 0, fun h => absurd rfl h, 0, rfl, rfl⟩
  · intro f r h hr; cases h; exact absurd rfl hr
  · intro p hp; cases hp
theorem Snd.tell {st : Pst} {i : Nat} (h : Snd st i) (a f : Nat) (hf : f = 7 ∨ f = 8 ∨ f = 10) : Snd (st.tell a f) i := by
  refine ⟨h.n1, h.n17, h.fr, h.top, fun p hp => ?_⟩
  rcases List.mem_append.1 hp with hp | hp
  · exact h.fa p hp
  · simp at hp; subst hp; exact hf
theorem Snd.row {st : Pst} {i j m : Nat} {g : Rw → Rw} (h : Snd st i) (hj : i + m ≤ j) (hg : ∀ r d, rowOk r d → rowOk (g r) d) (hs : ∀ r, (sayR (g r)).length ≤ (sayR r).length + m) (hh : ∀ r, (g r).has) : Snd (st.top g) j := by
  obtain ⟨fs, fa⟩ := st
  match fs, h with
  | f :: r, h =>
    obtain ⟨n, h1, h2⟩ := h.fr
    obtain ⟨g1, g2, k, g3, rfl⟩ := h1
    refine ⟨by simp [Pst.top, onTop], by have := h.n17; simpa [Pst.top, onTop] using this, ⟨(sayR (g f.row)).length + f.sign.length + k, ⟨hg _ _ g1, g2, k, g3, rfl⟩, ?_⟩, ?_, h.fa⟩
    · have := hs f.row; omega
    · intro f' r' e hr _
      simp only [Pst.top, onTop, List.cons.injEq] at e
      obtain ⟨rfl, rfl⟩ := e
      exact .inr (hh f.row)
  | [], h => exact absurd h.n1 (by simp)
theorem Snd.write {st : Pst} {i j : Nat} (h : Snd st i) (s : Bs) (hs : s ≠ []) (hj : i + s.length ≤ j) : Snd (st.write s) j :=
  h.row hj (fun _ _ hr => hr.write s) (fun r => by rw [sayR_write]; simp) (fun r => has_write (.inr hs))
theorem Snd.drop1 {st : Pst} {i j : Nat} (h : Snd st i) (h2 : 2 ≤ st.fs.length) (hj : i ≤ j) : Snd st.drop1 j ∧ ∃ f r, st.drop1.fs = f :: r ∧ f.row.has := by
  obtain ⟨fs, fa⟩ := st
  match fs, h2, h with
  | f :: g :: r, _, h =>
    obtain ⟨n, h1, h3⟩ := h.fr
    obtain ⟨g1, g2, k, ⟨g3, g4, m, g5, rfl⟩, rfl⟩ := h1
    have h17 := h.n17
    simp only [List.length_cons] at h17 g1 g2
    have hsg := (g2 (by simp)).2.1
    have hh : (Go.Bd.spill f g.row).has := has_spill hsg
    refine ⟨⟨by simp [Pst.drop1, onTop], by simp [Pst.drop1, onTop]; omega, ⟨(sayR (spill f g.row)).length + g.sign.length + m, ⟨rowOk.spill g1 g3 (by omega), g4, m, g5, rfl⟩, ?_⟩, ?_, ?_⟩, ⟨_, _, rfl, hh⟩⟩
    · rw [sayR_spill]; simp only [List.length_append]; omega
    · intro f' r' e hr _
      simp only [Pst.drop1, onTop, List.cons.injEq] at e
      obtain ⟨rfl, rfl⟩ := e
      exact .inr hh
    · intro p hp
      rcases List.mem_append.1 hp with hp | hp
      · exact h.fa p hp
      · simp at hp; subst hp; exact .inl rfl
theorem Snd.dropN {i : Nat} : ∀ (n : Nat) {st : Pst}, Snd st i → n + 1 ≤ st.fs.length → Snd (st.dropN n) i ∧ (st.dropN n).fs.length + n = st.fs.length ∧ (1 ≤ n → ∃ f r, (st.dropN n).fs = f :: r ∧ f.row.has)
  | 0, _, h, _ => ⟨h, rfl, fun h => by omega⟩
  | n + 1, st, h, hl => by
    have h1 := drop1_length (st := st) (by omega)
    obtain ⟨h4, h5⟩ := h.drop1 (by omega) (Nat.le_refl _)
    obtain ⟨h2, h3, h6⟩ := Snd.dropN n h4 (by omega)
    refine ⟨h2, by rw [Pst.dropN]; omega, fun _ => ?_⟩
    rw [Pst.dropN]
    cases n with
    | zero => exact h5
    | succ n => exact h6 (by omega)
theorem Snd.drop {st : Pst} {i n : Nat} (h : Snd st i) (hn : n < st.fs.length) : Snd (st.drop n) i ∧ (st.drop n).fs.length = n + 1 ∧ (n + 1 < st.fs.length → ∃ f r, (st.drop n).fs = f :: r ∧ f.row.has) := by
  obtain ⟨h1, h2, h3⟩ := Snd.dropN (st.fs.length - 1 - n) h (by omega)
  exact ⟨h1, by rw [Pst.drop]; omega, fun h => h3 (by omega)⟩
theorem Snd.fin {st : Pst} {i n j : Nat} (h : Snd st i) (h0 : 0 < n) (hn : n < st.fs.length) (hj : i ≤ j) (ht : (n + 1 = st.fs.length → ∀ f r, st.fs = f :: r → f.kind ≠ 6 → f.at' + 1 ≠ i)) : Snd (st.fin n) j := by
  obtain ⟨h1, h2, h3⟩ := h.drop hn
  have hh : ∀ f r, (st.drop n).fs = f :: r → f.kind ≠ 6 → f.row.has := fun f r e hk => by
    by_cases hl : n + 1 < st.fs.length
    · obtain ⟨f', r', e', hf⟩ := h3 hl
      rw [e] at e'; cases e'; exact hf
    · have hd : st.drop n = st := by rw [Pst.drop, show st.fs.length - 1 - n = 0 by omega]; rfl
      rw [hd] at e
      have hr : r ≠ [] := fun hr => by rw [e, hr] at hn; simp at hn; omega
      rcases h.top f r e hr hk with h5 | h5
      · exact absurd h5 (ht (by omega) f r e hk)
      · exact h5
  unfold Pst.fin
  generalize st.drop n = sd at h1 h2 hh
  obtain ⟨fs, fa⟩ := sd
  match fs, h1, h2, hh with
  | f :: g :: r, h1, h2, hh =>
    obtain ⟨m, k1, k2⟩ := h1.fr
    obtain ⟨g1, g2, k, ⟨g3, g4, q, g5, rfl⟩, rfl⟩ := k1
    have h17 := h1.n17
    simp only [List.length_cons] at h17 g1 g2 h2
    obtain ⟨hk, hsg, _⟩ := g2 (by simp)
    have hx : snd1 ⟨f.kind, [], [], [], f.row.flush.sp⟩ r.length = true := by
      have hfl := g1.flush
      simp only [snd1, Bool.and_eq_true]
      refine ⟨⟨⟨⟨by simp; omega, by simp; omega⟩, ?_⟩, by simp⟩, ?_⟩
      · rw [if_pos hk, hfl]; simp; omega
      · by_cases h6 : f.kind = 6
        · simp [h6]
        · have := has_flush (hh f (g :: r) rfl h6)
          simp [this]
    have hsy : (say1 ⟨f.kind, [], [], [], f.row.flush.sp⟩).length ≤ (sayR f.row).length := by
      simp only [say1]
      split
      · simp
      · split
        · rw [sayL_flush]; exact Nat.le_refl _
        · simp
    refine ⟨by simp [Pst.shut, onTop], by simp [Pst.shut, onTop]; omega, ⟨(sayR (g.row.add ⟨f.kind, [], [], [], f.row.flush.sp⟩)).length + g.sign.length + q, ⟨g3.add (.inr hx), g4, q, g5, rfl⟩, ?_⟩, ?_, h1.fa⟩
    · rw [sayR_add, List.length_append]; omega
    · intro f' r' e hr _
      simp only [Pst.shut, onTop, List.cons.injEq] at e
      obtain ⟨rfl, rfl⟩ := e
      exact .inr (has_add (.inr (.inl (by simp only; omega))))
  | [f], h1, h2, hh => simp at h2; omega
  | [], h1, h2, hh => simp at h2
theorem Snd.begin {st : Pst} {i j : Nat} (h : Snd st i) (hr : st.room = true) (k : Nat) (sign : Bs) (hk : k = 1 ∨ k = 2 ∨ k = 6) (hs : sign ≠ []) (hs1 : k ≠ 6 → sign.length = 1) (hj : j = i + sign.length) : Snd (st.begin k i sign) j := by
  unfold Pst.room at hr
  have := of_decide_eq_true hr
  obtain ⟨n, h1, h2⟩ := h.fr
  refine ⟨by simp [Pst.begin], by simp [Pst.begin]; omega, ⟨0 + sign.length + n, ⟨rowOk.none _, fun _ => ⟨hk, hs, hs1⟩, n, h1, by simp [sayR, Rw.none, sayL]⟩, by omega⟩, ?_, h.fa⟩
  intro f r e _ h6
  simp only [Pst.begin, List.cons.injEq] at e
  obtain ⟨rfl, rfl⟩ := e
  simp only at h6 ⊢
  rw [hj, hs1 h6]; exact .inl rfl
theorem atOf_top' (f : Fr) (r : List Fr) : atOf (f :: r) r.length = f.at' := by
  unfold atOf
  rw [List.reverse_cons, List.getElem?_append_right (by simp)]; simp
theorem Snd.mark {st : Pst} {s : Bs} {i k : Nat} (h : Snd st i) (hk : k = 1 ∨ k = 2) : Snd (st.mark s i k) (i + 1) := by
  unfold Pst.mark
  split
  · rename_i hc
    rcases lastK_lt k st.fs with h0 | h0
    · omega
    · refine h.fin hc.1 h0 (by omega) (fun e f r hf _ he => hc.2.1 ?_)
      have : lastK k st.fs = r.length := by rw [hf] at e ⊢; simp at e ⊢; omega
      rw [this, hf, atOf_top']; exact he
  · split
    · exact h.write _ (by simp) (by simp)
    · split
      · exact (h.write (j := i + 1) _ (by simp) (by simp)).tell _ _ (.inl rfl)
      · exact h.begin (by simp_all) k _ (by omega) (by simp) (fun _ => rfl) rfl
theorem as_snd {asf : Bs → Sp ⊕ Nat} {l : Bs} {x : Sp} (h : asf = codeS ∨ asf = refS ∨ asf = termS) (hx : asf l = .inl x) (hp : ∀ a b c, parseB l = some (a, b, c) → a.length ≤ l.length) : (∀ d, snd1 x d = true) ∧ x.kind ≠ 0 ∧ (say1 x).length ≤ l.length := by
  rcases h with rfl | rfl | rfl
  · cases hx; exact ⟨fun d => by simp [snd1], by simp, by simp [say1]⟩
  · unfold refS at hx
    split at hx
    · cases hx; exact ⟨fun d => by simp [snd1], by simp, by simp [say1]⟩
    · cases hx
  · unfold termS at hx
    split at hx
    · rename_i a b c e
      cases hx; exact ⟨fun d => by simp [snd1], by simp, by simpa [say1] using hp a b c e⟩
    · cases hx
theorem as_fault {asf : Bs → Sp ⊕ Nat} {l : Bs} {f : Nat} (h : asf = codeS ∨ asf = refS ∨ asf = termS) (hx : asf l = .inr f) : f = 7 ∨ f = 8 ∨ f = 10 := by
  rcases h with rfl | rfl | rfl
  · cases hx
  · unfold refS at hx
    split at hx
    · cases hx
    · cases hx; exact .inr (.inr rfl)
  · unfold termS at hx
    split at hx
    · cases hx
    · cases hx; exact .inr (.inl rfl)
theorem parse_le {l a b c : Bs} (h : parseB l = some (a, b, c)) : a.length ≤ l.length := by
  have h1 := trim_le (l.take (min (first l 59) (first l 62)))
  have h2 : (l.take (min (first l 59) (first l 62))).length ≤ l.length := by rw [List.length_take]; omega
  unfold parseB at h
  split at h
  · cases h
  split at h
  · cases h
  split at h
  · cases h; omega
  split at h
  · cases h
  split at h
  · cases h; omega
  · cases h; omega
theorem Snd.between {st : Pst} {s a b : Bs} {i : Nat} {asf : Bs → Sp ⊕ Nat} (h : Snd st i) (has : asf = codeS ∨ asf = refS ∨ asf = termS) (ha : 1 ≤ a.length) (hb : 1 ≤ b.length) (hi : i + a.length ≤ s.length) :
    Snd (st.between s i a b asf).1 (st.between s i a b asf).2 := by
  have ha0 : a ≠ [] := fun e => by rw [e] at ha; simp at ha
  unfold Pst.between
  split
  · exact (h.write _ ha0 (Nat.le_refl _)).tell _ _ (.inl rfl)
  · rename_i n hn
    obtain ⟨h1, h2⟩ := nextAt_some hi hn
    have hl1 : ((s.drop i).take (n + b.length - i)).length = n + b.length - i := by rw [List.length_take, List.length_drop]; omega
    have hl2 : ((s.drop (i + a.length)).take (n - (i + a.length))).length = n - (i + a.length) := by rw [List.length_take, List.length_drop]; omega
    split
    · rename_i f hf
      refine (h.write (j := n + b.length) _ (fun e => ?_) (by omega)).tell _ _ (as_fault has hf)
      rw [e] at hl1; simp at hl1; omega
    · rename_i x hx
      obtain ⟨p1, p2, p3⟩ := as_snd has hx (fun a b c e => parse_le e)
      exact h.row (m := (say1 x).length) (by rw [hl2] at p3; simp only; omega) (fun r d hr => hr.add (.inr (p1 d))) (fun r => by rw [sayR_add, List.length_append]; exact Nat.le_refl _) (fun r => has_add (.inr (.inl p2)))
theorem Snd.step {st : Pst} {s : Bs} {i : Nat} (h : Snd st i) (hi : i < s.length) : Snd (st.step s i).1 (st.step s i).2 := by
  unfold Pst.step
  split
  · exact h.write _ (by simp) (by simp)
  split
  · exact h.between (.inl rfl) (by simp) (by simp) (by simp; omega)
  split
  · rename_i hp
    exact h.between (.inr (.inl rfl)) (by simp) (by simp) (prefix_two hp)
  split
  · rename_i hp
    exact h.between (.inr (.inr rfl)) (by simp) (by simp) (prefix_two hp)
  split
  · simp only
    split
    · rename_i hr; exact h.begin hr 6 _ (by omega) (by simp) (fun h => absurd rfl h) rfl
    · exact (h.write (j := i + 2) _ (by simp) (by simp)).tell _ _ (.inl rfl)
  split
  · rename_i hc
    rcases lastK_lt 6 st.fs with h0 | h0
    · omega
    · refine h.fin hc.2 h0 (by simp) (fun e f r hf h6 => ?_)
      exfalso
      refine h6 ?_
      rw [hf] at e
      have hl : lastK 6 (f :: r) = r.length := by simp at e; omega
      rw [lastK] at hl
      by_cases h7 : r = []
      · rw [hf, lastK, if_pos h7] at hc
        omega
      · rw [if_neg h7] at hl
        by_cases h8 : f.kind = 6
        · exact h8
        · rw [if_neg h8] at hl
          rcases lastK_lt 6 r with h9 | h9
          · have : 0 < r.length := List.length_pos_iff.2 h7
            omega
          · omega
  split
  · exact h.mark (.inl rfl)
  split
  · exact h.mark (.inr rfl)
  · exact h.write _ (by simp) (by simp)
theorem Snd.run {s : Bs} : ∀ (n i : Nat) (st : Pst), Inv st i → Snd st i → i ≤ s.length → s.length - i ≤ n → Snd (runP s n i st) s.length
  | 0, i, st, _, h, hi, hn => by
    rw [run_end (s := s) st (by omega)]
    have : i = s.length := by omega
    rw [← this]; exact h
  | n + 1, i, st, hI, h, hi, hn => by
    rw [runP]
    split
    · rename_i hlt
      obtain ⟨h3, h4, h5⟩ := hI.step hlt
      exact Snd.run n _ _ h3 (h.step hlt) h5 (by omega)
    · have : i = s.length := by omega
      rw [← this]; exact h
theorem endP_one (s : Bs) : ∃ f, (endP s).fs = [f] := by
  have h := Snd.run (s := s) s.length 0 Pst.first Inv.first Snd.first (Nat.zero_le _) (by omega)
  have h2 := (h.drop h.n1).2.1
  match hq : (endP s).fs with
  | [f] => exact ⟨f, rfl⟩
  | [] => unfold endP at hq; rw [hq] at h2; simp at h2
  | f :: g :: r => unfold endP at hq; rw [hq] at h2; simp at h2
end Go.Bd
