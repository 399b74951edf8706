/-
  Walks: the forms of a term, and parse.
-/
import Derived.Test.YtacghogdodcinaaDoorTW9
import Derived.Test.YtacghogdodcinaaDoorBytes2
import Derived.Laws.EntriesVeiled
namespace Go.Proofs.YtacghogdodcinaaDoor
open Go.RowKit Go.Bd
theorem tell1_any (a b : ByteArray) (w : World) : Calls Tryd.prog 28 #[.string a, .string b] w fun e w' => e = .returned (.agg #[.string a, .string b, .string ⟨#[]⟩]) ∧ Below w.heap.size w w' := by
  go_enter Tryd.func28, Tryd.ntmps28
  go_wp2
  go_returns
  exact ⟨rfl, (Below.refl _ _).alloc (Nat.le_refl _) _⟩
theorem tell2_any (a b : ByteArray) (w : World) : Calls Tryd.prog 29 #[.string a, .string b] w fun e w' => e = .returned (.agg #[.string a, .string ⟨#[]⟩, .string b]) ∧ Below w.heap.size w w' := by
  go_enter Tryd.func29, Tryd.ntmps29
  go_wp2
  go_returns
  exact ⟨rfl, (Below.refl _ _).alloc (Nat.le_refl _) _⟩
theorem tell3_any (a b : ByteArray) (w : World) : Calls Tryd.prog 30 #[.string a, .string b] w fun e w' => e = .returned (.agg #[.string a, .string ⟨#[]⟩, .string ⟨#[]⟩]) ∧ Below w.heap.size w w' := by
  go_enter Tryd.func30, Tryd.ntmps30
  go_wp2
  go_returns
  exact ⟨rfl, (Below.refl _ _).alloc (Nat.le_refl _) _⟩
theorem forms_any (w : World) : Calls Tryd.prog 22 #[] w fun e w' => e = .returned (.agg #[.string ⟨#[59]⟩, .func (.func 28) #[] #[], .string ⟨#[62]⟩, .func (.func 29) #[] #[], .string ⟨#[]⟩, .func (.func 30) #[] #[]]) ∧ Below w.heap.size w w' := by
  go_enter Tryd.func22, Tryd.ntmps22
  go_wp2
  go_returns
  exact ⟨rfl, (Below.refl _ _).alloc (Nat.le_refl _) _⟩
def formsV : Value := .agg #[.string ⟨#[59]⟩, .func (.func 28) #[] #[], .string ⟨#[62]⟩, .func (.func 29) #[] #[], .string ⟨#[]⟩, .func (.func 30) #[] #[]]
theorem form0 (w : World) : (Instr.index 48 formsV (.int .i64 0)).run Tryd.prog w = .ok (.agg #[.string ⟨#[59]⟩, .func (.func 28) #[] #[]]) w := by kernel_rfl
theorem form1 (w : World) : (Instr.index 48 formsV (.int .i64 1)).run Tryd.prog w = .ok (.agg #[.string ⟨#[62]⟩, .func (.func 29) #[] #[]]) w := by kernel_rfl
theorem form2 (w : World) : (Instr.index 48 formsV (.int .i64 2)).run Tryd.prog w = .ok (.agg #[.string ⟨#[]⟩, .func (.func 30) #[] #[]]) w := by kernel_rfl
/-- what parse answers -/
def parseO : Option (Bs × Bs × Bs) → Value
  | none => .tuple #[.agg #[strV [], strV [], strV []], .bool false]
  | some (a, b, c) => .tuple #[.agg #[strV a, strV b, strV c], .bool true]
def parseP (l : Bs) : Value := parseO (parseB l)
set_option maxHeartbeats 400000 in
theorem parse_long (s : ByteArray) (w : World) (hs : s.size ≤ 9223372036854775807) (hl : 240 < s.size) :
    Calls Tryd.prog 17 #[.string s] w fun e w' => e = .returned (parseP s.data.toList) ∧ Below w.heap.size w w' := by
  have hv : Hid (parseP s.data.toList = .tuple #[.agg #[strV [], strV [], strV []], .bool false]) := by
    unfold Hid; rw [parseP, parseB_long (by simpa using hl)]; rfl
  go_enter Tryd.func17, Tryd.ntmps17
  go_wp2
  go_returns
  exact ⟨congrArg Ending.returned hv.out.symm, (Below.refl _ _).alloc (Nat.le_refl _) _⟩
theorem cut59_hit (s : ByteArray) (m : Int) (w : World) (hs : s.size ≤ 240) (hm : w.cell? ⟨0, 0, none⟩ = some (.int .i64 m)) (h : first s.data.toList 59 < s.size) :
    Calls Tryd.prog 23 #[.string s, .string ⟨#[59]⟩] w fun e w' => e = .returned (.tuple #[strV (s.data.toList.take (first s.data.toList 59)), strV (s.data.toList.drop (first s.data.toList 59 + 1)), .bool true]) ∧ Below w.heap.size w w' := by
  refine (Tryd.strings_Cut s ⟨#[59]⟩ m w (by omega) hm).mono ?_
  rintro e w' ⟨he, n, hw⟩
  refine ⟨?_, hw ▸ below_drewN (Below.refl _ _) _⟩
  have hc := @cut_hit s.data.toList 59 (by rw [e59]; simpa using h)
  rw [e59] at hc
  rw [he, show (⟨#[59]⟩ : ByteArray).data.toList = [59] from rfl, hc]; rfl
/-- what parse holds in memory: its result's place, and the form that is tried -/
structure St (w W : World) (g : Nat) (sg : ByteArray) (f : Value) : Prop where
  res : Holds W w.heap.size 40 #[.string ⟨#[]⟩, .string ⟨#[]⟩, .string ⟨#[]⟩]
  form : Holds W g 47 #[.string sg, f]
  below : Below w.heap.size w W
  apart : w.heap.size < g
theorem St.later {w W W' : World} {g : Nat} {sg : ByteArray} {f : Value} (h : St w W g sg f) (hb : Below W.heap.size W W') : St w W' g sg f :=
  ⟨h.res.below hb h.res.lt, h.form.below hb h.form.lt, h.below.trans (hb.mono h.below.size), h.apart⟩
theorem St.first {w w1 : World} (sg : ByteArray) (f : Value) (hb : Below (w.alloc (.cells #[.string ⟨#[]⟩, .string ⟨#[]⟩, .string ⟨#[]⟩] 40)).heap.size (w.alloc (.cells #[.string ⟨#[]⟩, .string ⟨#[]⟩, .string ⟨#[]⟩] 40)) w1) :
    St w (w1.alloc (.cells #[.string sg, f] 47)) w1.heap.size sg f := by
  have hs1 : w.heap.size < w1.heap.size := by have := hb.size; simp at this; omega
  exact ⟨((Holds.new w _ _).below hb (by simp)).alloc _, Holds.new w1 _ _, (((Below.refl _ _).alloc (Nat.le_refl _) _).trans (hb.mono (by simp))).alloc (by omega) _, hs1⟩
theorem St.next {w W : World} {g : Nat} {sg : ByteArray} {f : Value} (h : St w W g sg f) (sg' : ByteArray) (f' : Value) : St w (W.alloc (.cells #[.string sg', f'] 47)) W.heap.size sg' f' :=
  ⟨h.res.alloc _, Holds.new W _ _, h.below.alloc h.below.size _, h.res.lt⟩
set_option maxHeartbeats 1000000 in
theorem parse_sub (s : ByteArray) (m : Int) (w : World) (hs : s.size ≤ 240) (hm : w.cell? ⟨0, 0, none⟩ = some (.int .i64 m)) (h : first s.data.toList 59 < s.size) :
    Calls Tryd.prog 17 #[.string s] w fun e w' => e = .returned (parseP s.data.toList) ∧ Below w.heap.size w w' := by
  have hv := Lib.hid (congrArg parseO (parseB_sub (l := s.data.toList) (by simpa using hs) (by simpa using h)))
  have f0 := form0
  have ff := forms_any
  change ∀ w, Calls _ _ _ _ (fun e w' => e = .returned formsV ∧ _) at ff
  generalize formsV = fv at f0 ff
  have hw0 := block_lt_of_cell hm
  have l1 : s.data.toList.length ≤ 240 := by simpa using hs
  go_enter Tryd.func17, Tryd.ntmps17
  go_wp2_with fail
  refine (ff _).mono ?_
  rintro e w1 ⟨rfl, hb1⟩
  go_wp2_with fail
  refine wp_loop_rounds 1 ?_
  rw [rounds_succ]
  go_wp2_with fail
  have S1 := St.first ⟨#[59]⟩ (.func (.func 28) #[] #[]) hb1
  obtain ⟨W1, hW1⟩ : ∃ W, W = w1.alloc (.cells #[.string ⟨#[59]⟩, .func (.func 28) #[] #[]] 47) := ⟨_, rfl⟩
  rw [← hW1] at S1 ⊢
  clear hW1 hb1
  generalize w1.heap.size = g at S1 ⊢
  refine (cut59_hit s m W1 hs ((S1.below.cell (p := ⟨0, 0, none⟩) hw0).trans hm) h).mono ?_
  rintro e w2 ⟨rfl, hb2⟩
  have S2 := S1.later hb2
  clear S1 hb2
  rw [strV, strV]
  go_wp2_with fail
  refine (termPart_any _ _ (by rw [size_mk, List.length_take]; omega)).mono ?_
  rintro e w3 ⟨rfl, hb3⟩
  have S3 := S2.later hb3
  clear S2 hb3
  have k0 := (S3.res.cell 0); have k1 := (S3.res.cell 1); have k2 := (S3.res.cell 2)
  have z0 := (S3.res.free 0); have z1 := (S3.res.free 1); have z2 := (S3.res.free 2)
  rw [show ∀ l : Bs, (ByteArray.mk l.toArray).data.toList = l from fun l => by simp]
  cases p1 : partB (trim (s.data.toList.take (first s.data.toList 59)))
  · go_wp2
    refine bodyPost_ret (v := (.tuple #[.agg #[strV [], strV [], strV []], .bool false])) (by simp [results, Tryd.results17, go_sem, k0, k1, k2, strV]) rfl ?_
    refine ⟨congrArg Ending.returned ?_, ?_⟩
    · rw [show parseP s.data.toList = _ from hv.out, two, p1]; rfl
    · have S3b := S3.below
      go_grown
  · go_wp2_with fail
    clear k0 k1 k2 z0 z1 z2
    refine (termPart_any _ _ (by rw [size_mk, List.length_drop]; omega)).mono ?_
    rintro e w4 ⟨rfl, hb4⟩
    have S4 := S3.later hb4
    clear S3 hb4
    rw [show ∀ l : Bs, (ByteArray.mk l.toArray).data.toList = l from fun l => by simp]
    cases p2 : partB (trim (s.data.toList.drop (first s.data.toList 59 + 1)))
    · have k0 := (S4.res.cell 0); have k1 := (S4.res.cell 1); have k2 := (S4.res.cell 2)
      have z0 := (S4.res.free 0); have z1 := (S4.res.free 1); have z2 := (S4.res.free 2)
      go_wp2
      refine bodyPost_ret (v := (.tuple #[.agg #[strV [], strV [], strV []], .bool false])) (by simp [results, Tryd.results17, go_sem, k0, k1, k2, strV]) rfl ?_
      refine ⟨congrArg Ending.returned ?_, ?_⟩
      · rw [show parseP s.data.toList = _ from hv.out, two, p1, p2]; rfl
      · have S4b := S4.below
        go_grown
    · have q1 := S4.form.cell 1
      rw [strV, strV]
      go_wp2_with fail
      clear q1
      refine (tell1_any _ _ _).mono ?_
      rintro e w5 ⟨rfl, hb5⟩
      have S5 := S4.later hb5
      have k0 := (S5.res.cell 0); have k1 := (S5.res.cell 1); have k2 := (S5.res.cell 2)
      have z0 := (S5.res.free 0); have z1 := (S5.res.free 1); have z2 := (S5.res.free 2)
      go_wp2
      refine bodyPost_ret (v := (.tuple #[.agg #[strV (trim (s.data.toList.take (first s.data.toList 59))), strV (trim (s.data.toList.drop (first s.data.toList 59 + 1))), strV []], .bool true])) (by simp [results, Tryd.results17, go_sem, k0, k1, k2, strV]) rfl ?_
      refine ⟨congrArg Ending.returned ?_, ?_⟩
      · rw [show parseP s.data.toList = _ from hv.out, two, p1, p2]; rfl
      · have S5b := S5.below
        go_grown
end Go.Proofs.YtacghogdodcinaaDoor
