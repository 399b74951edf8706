/-
  Walks: parse of a term with the second form, or the third.
-/
import Derived.Test.YtacghogdodcinaaDoorTWa
namespace Go.Proofs.YtacghogdodcinaaDoor
open Go.RowKit Go.Bd
theorem cut59_none (s : ByteArray) (m : Int) (w : World) (hs : s.size ≤ 240) (hm : w.cell? ⟨0, 0, none⟩ = some (.int .i64 m)) (h : first s.data.toList 59 = s.data.toList.length) :
    Calls Tryd.prog 23 #[.string s, .string ⟨#[59]⟩] w fun e w' => e = .returned (.tuple #[.string s, strV [], .bool false]) ∧ Below w.heap.size w w' := by
  refine (Tryd.strings_Cut s ⟨#[59]⟩ m w (by omega) hm).mono ?_
  rintro e w' ⟨he, n, hw⟩
  refine ⟨?_, hw ▸ below_drewN (Below.refl _ _) _⟩
  have hc := @cut_none s.data.toList 59 (by rw [e59]; omega)
  rw [he, show (⟨#[59]⟩ : ByteArray).data.toList = [59] from rfl, hc]; simp [strV]
theorem cut62_none (s : ByteArray) (m : Int) (w : World) (hs : s.size ≤ 240) (hm : w.cell? ⟨0, 0, none⟩ = some (.int .i64 m)) (h : first s.data.toList 62 = s.data.toList.length) :
    Calls Tryd.prog 23 #[.string s, .string ⟨#[62]⟩] w fun e w' => e = .returned (.tuple #[.string s, strV [], .bool false]) ∧ Below w.heap.size w w' := by
  refine (Tryd.strings_Cut s ⟨#[62]⟩ m w (by omega) hm).mono ?_
  rintro e w' ⟨he, n, hw⟩
  refine ⟨?_, hw ▸ below_drewN (Below.refl _ _) _⟩
  have hc := @cut_none s.data.toList 62 (by rw [e62]; omega)
  rw [he, show (⟨#[62]⟩ : ByteArray).data.toList = [62] from rfl, hc]; simp [strV]
theorem cut62_hit (s : ByteArray) (m : Int) (w : World) (hs : s.size ≤ 240) (hm : w.cell? ⟨0, 0, none⟩ = some (.int .i64 m)) (h : first s.data.toList 62 < s.size) :
    Calls Tryd.prog 23 #[.string s, .string ⟨#[62]⟩] w fun e w' => e = .returned (.tuple #[strV (s.data.toList.take (first s.data.toList 62)), strV (s.data.toList.drop (first s.data.toList 62 + 1)), .bool true]) ∧ Below w.heap.size w w' := by
  refine (Tryd.strings_Cut s ⟨#[62]⟩ m w (by omega) hm).mono ?_
  rintro e w' ⟨he, n, hw⟩
  refine ⟨?_, hw ▸ below_drewN (Below.refl _ _) _⟩
  have hc := @cut_hit s.data.toList 62 (by rw [e62]; simpa using h)
  rw [e62] at hc
  rw [he, show (⟨#[62]⟩ : ByteArray).data.toList = [62] from rfl, hc]; rfl
set_option maxHeartbeats 1000000 in
theorem parse_see (s : ByteArray) (m : Int) (w : World) (hs : s.size ≤ 240) (hm : w.cell? ⟨0, 0, none⟩ = some (.int .i64 m)) (h0 : Hid (first s.data.toList 59 = s.data.toList.length)) (h : first s.data.toList 62 < s.size) :
    Calls Tryd.prog 17 #[.string s] w fun e w' => e = .returned (parseP s.data.toList) ∧ Below w.heap.size w w' := by
  have hv := Lib.hid (congrArg parseO (parseB_see (l := s.data.toList) (by simpa using hs) h0.out (by simpa using h)))
  have f0 := form0
  have f1 := form1
  have ff := forms_any
  change ∀ w, Calls _ _ _ _ (fun e w' => e = .returned formsV ∧ _) at ff
  generalize formsV = fv at f0 f1 ff
  have hw0 := block_lt_of_cell hm
  have l1 : s.data.toList.length ≤ 240 := by simpa using hs
  go_enter Tryd.func17, Tryd.ntmps17
  go_wp2_with fail
  refine (ff _).mono ?_
  rintro e w1 ⟨rfl, hb1⟩
  go_wp2_with fail
  refine wp_loop_rounds 2 ?_
  rw [rounds_succ]
  go_wp2_with fail
  have S1 := St.first ⟨#[59]⟩ (.func (.func 28) #[] #[]) hb1
  obtain ⟨W1, hW1⟩ : ∃ W, W = w1.alloc (.cells #[.string ⟨#[59]⟩, .func (.func 28) #[] #[]] 47) := ⟨_, rfl⟩
  rw [← hW1] at S1 ⊢
  clear hW1 hb1
  generalize w1.heap.size = g at S1 ⊢
  refine (cut59_none s m W1 hs ((S1.below.cell (p := ⟨0, 0, none⟩) hw0).trans hm) h0.out).mono ?_
  rintro e w2 ⟨rfl, hb2⟩
  have S2' := S1.later hb2
  clear S1 hb2
  rw [strV]
  go_wp2_with fail
  rw [rounds_succ]
  go_wp2_with fail
  have S1 := S2'.next ⟨#[62]⟩ (.func (.func 29) #[] #[])
  clear S2'
  obtain ⟨W2, hW2⟩ : ∃ W, W = w2.alloc (.cells #[.string ⟨#[62]⟩, .func (.func 29) #[] #[]] 47) := ⟨_, rfl⟩
  rw [← hW2] at S1 ⊢
  clear hW2
  generalize w2.heap.size = g2 at S1 ⊢
  refine (cut62_hit s m W2 hs ((S1.below.cell (p := ⟨0, 0, none⟩) hw0).trans hm) h).mono ?_
  rintro e w2 ⟨rfl, hb2⟩
  have S2 := S1.later hb2
  clear S1 hb2
  rw [strV, strV]
  go_wp2_with fail
  refine (termPart_any _ _ (by rw [size_mk, List.length_take]; omega)).mono ?_
  rintro e w3 ⟨rfl, hb3⟩
  have S3 := S2.later hb3
  clear S2 hb3
  have k0 := (S3.res.cell 0); have k1 := (S3.res.cell 1); have k2 := (S3.res.cell 2)
  have z0 := (S3.res.free 0); have z1 := (S3.res.free 1); have z2 := (S3.res.free 2)
  rw [show ∀ l : Bs, (ByteArray.mk l.toArray).data.toList = l from fun l => by simp]
  cases p1 : partB (trim (s.data.toList.take (first s.data.toList 62)))
  · go_wp2
    refine bodyPost_ret (v := (.tuple #[.agg #[strV [], strV [], strV []], .bool false])) (by simp [results, Tryd.results17, go_sem, k0, k1, k2, strV]) rfl ?_
    refine ⟨congrArg Ending.returned ?_, ?_⟩
    · rw [show parseP s.data.toList = _ from hv.out, two, p1]; rfl
    · have S3b := S3.below
      go_grown
  · go_wp2_with fail
    clear k0 k1 k2 z0 z1 z2
    refine (termPart_any _ _ (by rw [size_mk, List.length_drop]; omega)).mono ?_
    rintro e w4 ⟨rfl, hb4⟩
    have S4 := S3.later hb4
    clear S3 hb4
    rw [show ∀ l : Bs, (ByteArray.mk l.toArray).data.toList = l from fun l => by simp]
    cases p2 : partB (trim (s.data.toList.drop (first s.data.toList 62 + 1)))
    · have k0 := (S4.res.cell 0); have k1 := (S4.res.cell 1); have k2 := (S4.res.cell 2)
      have z0 := (S4.res.free 0); have z1 := (S4.res.free 1); have z2 := (S4.res.free 2)
      go_wp2
      refine bodyPost_ret (v := (.tuple #[.agg #[strV [], strV [], strV []], .bool false])) (by simp [results, Tryd.results17, go_sem, k0, k1, k2, strV]) rfl ?_
      refine ⟨congrArg Ending.returned ?_, ?_⟩
      · rw [show parseP s.data.toList = _ from hv.out, two, p1, p2]; rfl
      · have S4b := S4.below
        go_grown
    · have q1 := S4.form.cell 1
      rw [strV, strV]
      go_wp2_with fail
      clear q1
      refine (tell2_any _ _ _).mono ?_
      rintro e w5 ⟨rfl, hb5⟩
      have S5 := S4.later hb5
      have k0 := (S5.res.cell 0); have k1 := (S5.res.cell 1); have k2 := (S5.res.cell 2)
      have z0 := (S5.res.free 0); have z1 := (S5.res.free 1); have z2 := (S5.res.free 2)
      go_wp2
      refine bodyPost_ret (v := (.tuple #[.agg #[strV (trim (s.data.toList.take (first s.data.toList 62))), strV [], strV (trim (s.data.toList.drop (first s.data.toList 62 + 1)))], .bool true])) (by simp [results, Tryd.results17, go_sem, k0, k1, k2, strV]) rfl ?_
      refine ⟨congrArg Ending.returned ?_, ?_⟩
      · rw [show parseP s.data.toList = _ from hv.out, two, p1, p2]; rfl
      · have S5b := S5.below
        go_grown
set_option maxHeartbeats 1000000 in
theorem parse_one (s : ByteArray) (m : Int) (w : World) (hs : s.size ≤ 240) (hm : w.cell? ⟨0, 0, none⟩ = some (.int .i64 m)) (h0 : Hid (first s.data.toList 59 = s.data.toList.length)) (h : Hid (first s.data.toList 62 = s.data.toList.length)) :
    Calls Tryd.prog 17 #[.string s] w fun e w' => e = .returned (parseP s.data.toList) ∧ Below w.heap.size w w' := by
  have hv := Lib.hid (congrArg parseO (parseB_one (l := s.data.toList) (by simpa using hs) h0.out h.out))
  have f0 := form0
  have f1 := form1
  have f2 := form2
  have ff := forms_any
  change ∀ w, Calls _ _ _ _ (fun e w' => e = .returned formsV ∧ _) at ff
  generalize formsV = fv at f0 f1 f2 ff
  have hw0 := block_lt_of_cell hm
  have l1 : s.data.toList.length ≤ 240 := by simpa using hs
  go_enter Tryd.func17, Tryd.ntmps17
  go_wp2_with fail
  refine (ff _).mono ?_
  rintro e w1 ⟨rfl, hb1⟩
  go_wp2_with fail
  refine wp_loop_rounds 3 ?_
  rw [rounds_succ]
  go_wp2_with fail
  have S1 := St.first ⟨#[59]⟩ (.func (.func 28) #[] #[]) hb1
  obtain ⟨W1, hW1⟩ : ∃ W, W = w1.alloc (.cells #[.string ⟨#[59]⟩, .func (.func 28) #[] #[]] 47) := ⟨_, rfl⟩
  rw [← hW1] at S1 ⊢
  clear hW1 hb1
  generalize w1.heap.size = g at S1 ⊢
  refine (cut59_none s m W1 hs ((S1.below.cell (p := ⟨0, 0, none⟩) hw0).trans hm) h0.out).mono ?_
  rintro e w2 ⟨rfl, hb2⟩
  have S2' := S1.later hb2
  clear S1 hb2
  rw [strV]
  go_wp2_with fail
  rw [rounds_succ]
  go_wp2_with fail
  have S1 := S2'.next ⟨#[62]⟩ (.func (.func 29) #[] #[])
  clear S2'
  obtain ⟨W2, hW2⟩ : ∃ W, W = w2.alloc (.cells #[.string ⟨#[62]⟩, .func (.func 29) #[] #[]] 47) := ⟨_, rfl⟩
  rw [← hW2] at S1 ⊢
  clear hW2
  generalize w2.heap.size = g2 at S1 ⊢
  refine (cut62_none s m W2 hs ((S1.below.cell (p := ⟨0, 0, none⟩) hw0).trans hm) h.out).mono ?_
  rintro e w2 ⟨rfl, hb2⟩
  have S2' := S1.later hb2
  clear S1 hb2
  rw [strV]
  go_wp2_with fail
  rw [rounds_succ]
  go_wp2_with fail
  have S2 := S2'.next ⟨#[]⟩ (.func (.func 30) #[] #[])
  clear S2'
  obtain ⟨W3, hW3⟩ : ∃ W, W = w2.alloc (.cells #[.string ⟨#[]⟩, .func (.func 30) #[] #[]] 47) := ⟨_, rfl⟩
  rw [← hW3] at S2 ⊢
  clear hW3
  generalize w2.heap.size = g3 at S2 ⊢
  refine (termPart_any _ _ (by omega)).mono ?_
  rintro e w3 ⟨rfl, hb3⟩
  have S3 := S2.later hb3
  clear S2 hb3
  cases p1 : partB (trim s.data.toList)
  · have k0 := (S3.res.cell 0); have k1 := (S3.res.cell 1); have k2 := (S3.res.cell 2)
    have z0 := (S3.res.free 0); have z1 := (S3.res.free 1); have z2 := (S3.res.free 2)
    go_wp2
    refine bodyPost_ret (v := (.tuple #[.agg #[strV [], strV [], strV []], .bool false])) (by simp [results, Tryd.results17, go_sem, k0, k1, k2, strV]) rfl ?_
    refine ⟨congrArg Ending.returned ?_, ?_⟩
    · rw [show parseP s.data.toList = _ from hv.out, p1]; rfl
    · have S3b := S3.below
      go_grown
  · have q1 := S3.form.cell 1
    rw [strV]
    go_wp2_with fail
    clear q1
    refine (tell3_any _ _ _).mono ?_
    rintro e w5 ⟨rfl, hb5⟩
    have S5 := S3.later hb5
    have k0 := (S5.res.cell 0); have k1 := (S5.res.cell 1); have k2 := (S5.res.cell 2)
    have z0 := (S5.res.free 0); have z1 := (S5.res.free 1); have z2 := (S5.res.free 2)
    go_wp2
    refine bodyPost_ret (v := (.tuple #[.agg #[strV (trim s.data.toList), strV [], strV []], .bool true])) (by simp [results, Tryd.results17, go_sem, k0, k1, k2, strV]) rfl ?_
    refine ⟨congrArg Ending.returned ?_, ?_⟩
    · rw [show parseP s.data.toList = _ from hv.out, p1]; rfl
    · have S5b := S5.below
      go_grown
/-- parse, of any text -/
theorem parse_any (s : ByteArray) (m : Int) (w : World) (hs : s.size ≤ 9223372036854775807) (hm : w.cell? ⟨0, 0, none⟩ = some (.int .i64 m)) :
    Calls Tryd.prog 17 #[.string s] w fun e w' => e = .returned (parseP s.data.toList) ∧ Below w.heap.size w w' := by
  by_cases hl : 240 < s.size
  · exact parse_long s w hs hl
  · have h1 := first_le s.data.toList 59
    have h2 := first_le s.data.toList 62
    have hz := size_list s
    by_cases h : first s.data.toList 59 < s.size
    · exact parse_sub s m w (by omega) hm h
    · by_cases h' : first s.data.toList 62 < s.size
      · exact parse_see s m w (by omega) hm (by unfold Hid; omega) h'
      · exact parse_one s m w (by omega) hm (by unfold Hid; omega) (by unfold Hid; omega)
end Go.Proofs.YtacghogdodcinaaDoor
