/-
  What the chapter's laws share, part 3: plain facts, memory, and walks of functions. Its conditions: those that each theorem names.
-/
import Derived.Test.YtgiiglcgfbnaoaaGreatDoorSort
import Derived.Test.YtgiiglcgfbnaoaaGreatDoorShelf
import Derived.Shelf.Strings.BuilderF
import Derived.Test.YtgiiglcgfbnaoaaGreatDoorK2
set_option linter.unusedSimpArgs false
set_option linter.unusedVariables false
namespace Go.Bd
theorem isB {c d : UInt8} {k : Int} (hk : (d.toNat : Int) = k) (h : c = d) : ((c.toNat : Int) == k) = true := by subst h; rw [hk]; simp
theorem neB {c d : UInt8} {k : Int} (hk : (d.toNat : Int) = k) (h : c ≠ d) : ((c.toNat : Int) == k) = false := by
  rw [beq_eq_false_iff_ne, ← hk]
  intro e
  exact h (UInt8.toNat_inj.1 (by omega))
theorem pre_hasPrefix (s p : Bs) : Lib.hasPrefix s p = p.isPrefixOf s := by first | rfl | simp [Lib.hasPrefix] | (unfold Lib.hasPrefix; rfl)
end Go.Bd
namespace Go.Proofs.YtgiiglcgfbnaoaaGreatDoor
open Go.RowKit Go.Bd
section
variable {w : World} {B : Nat} {col : Nat → Nat} {pb ob cap len : Nat} {s : ByteArray} {st : Pst} {i : Nat} {fv : Value} {gb : Nat} {cs : Array Value} {gn : List Bs}
/-- what a step leaves -/
def StepPost (B pb : Nat) (s : ByteArray) (gb : Nat) (w : World) (col : Nat → Nat) (st' : Pst) (j : Nat) (w' : World) : Prop :=
  ∃ col' ob' cap' fv' cs' gn', PSx Tryz.prog w' B col' pb ob' cap' st'.fs.length s st' j fv' gb cs' gn' ∧ Stay B w w' col col'
theorem between_any (h : PSx Tryz.prog w B col pb ob cap len s st i fv gb cs gn) (hl : len = st.fs.length) (hI : Inv st i) (a b : ByteArray) (ha : 1 ≤ a.size) (ha2 : a.size ≤ 2) (hb0 : 1 ≤ b.size) (hb : b.size ≤ 2) (hi : i + a.size ≤ s.size) (hs : s.size ≤ 100000) (F : Nat) (m : Int) (hm : w.cell? ⟨0, 0, none⟩ = some (.int .i64 m)) (hB : 0 < B)
    {af : Bs → Sp ⊕ Nat} (hF : AsOk F af) (has : af = codeS ∨ af = refS ∨ af = termS) :
    Calls Tryz.prog 68 #[.pointer (some ⟨pb, 0, none⟩), .int .i64 (i : Int), .string a, .string b, .func (.func F) #[] #[]] w fun e w' => e = .returned (.int .i64 ((st.between s.data.toList i a.data.toList b.data.toList af).2 : Nat)) ∧
      StepPost B pb s gb w col (st.between s.data.toList i a.data.toList b.data.toList af).1 (st.between s.data.toList i a.data.toList b.data.toList af).2 w' := by
  have la : a.data.toList.length = a.size := by simp
  have lb : b.data.toList.length = b.size := by simp
  have ls : s.data.toList.length = s.size := by simp
  unfold Pst.between
  rw [la, lb]
  cases hn : nextAt s.data.toList (i + a.size) b.data.toList with
  | none =>
    refine (between_none h hl hI a b ha ha2 hb hi hs F m hm hn).mono ?_
    rintro e w' ⟨rfl, col', fv', cs', gn', h1, h2⟩
    exact ⟨rfl, col', ob, cap, fv', cs', gn', by rw [show (((st.write a.data.toList).tell i 7 : Pst)).fs.length = len by rw [tellLen, writeLen, hl]]; exact h1, h2⟩
  | some n =>
    obtain ⟨n1, n2⟩ := nextAt_some (by omega) hn
    rw [lb, ls] at n2
    simp only
    cases haf : af ((s.data.toList.drop (i + a.size)).take (n - (i + a.size))) with
    | inr fc =>
      have hfc : 1 ≤ fc := by rcases as_fault has haf with h | h | h <;> omega
      refine (between_bad h hl hI a b ha ha2 hb hi hs F m hm hB hn n2 hF haf hfc).mono ?_
      rintro e w' ⟨rfl, col', fv', cs', gn', h1, h2⟩
      exact ⟨rfl, col', ob, cap, fv', cs', gn', by rw [show (((st.write ((s.data.toList.drop i).take (n + b.size - i))).tell i fc : Pst)).fs.length = len by rw [tellLen, writeLen, hl]]; exact h1, h2⟩
    | inl x =>
      obtain ⟨_, p2, p3, _⟩ := as_wt has haf
      refine (between_good h hl hI a b ha ha2 hb hi hs F m hm hB hn n2 hF haf p3 (fun h => absurd h p2)).mono ?_
      rintro e w' ⟨rfl, col', fv', cs', gn', h1, h2⟩
      exact ⟨rfl, col', ob, cap, fv', cs', gn', by rw [show ((st.top (·.add x) : Pst)).fs.length = len by rw [hl]; exact onTop_length (·.add x) st.fs]; exact h1, h2⟩
/-- the rest of a text -/
theorem rest_list (s : ByteArray) (i : Nat) : (s.extract i s.size).data.toList = s.data.toList.drop i := by
  rw [cut_list, List.take_of_length_le (by simp)]
theorem rest_get {s : ByteArray} {i : Nat} (j : Nat) (h : j < (s.extract i s.size).size) : (s.extract i s.size)[j] = s.data.toList.getD (i + j) 0 := by
  have e : (s.extract i s.size)[j] = (s.extract i s.size).data.toList[j]'(by simpa using h) := by first | rfl | simp [ByteArray.getElem_eq_getElem_data]
  rw [e, List.getD_eq_getElem?_getD]
  simp only [rest_list, List.getElem_drop]
  rw [List.getElem?_eq_getElem]
  rfl

set_option maxRecDepth 100000 in
set_option maxHeartbeats 2000000 in
theorem step_esc (h : PSx Tryz.prog w B col pb ob cap len s st i fv gb cs gn) (hl : len = st.fs.length) (hI : Inv st i) (hi : i < s.size) (hs : s.size ≤ 100000) (m : Int) (hm : w.cell? ⟨0, 0, none⟩ = some (.int .i64 m)) (hB : 0 < B) (hc : s.data.toList.getD i 0 = 92) (hn : i + 1 < s.size) (he : escB (s.data.toList.getD (i + 1) 0) = true) :
    Calls Tryz.prog 37 #[.pointer (some ⟨pb, 0, none⟩), .int .i64 (i : Int)] w fun e w' => e = .returned (.int .i64 ((i + 2 : Nat) : Int)) ∧ StepPost B pb s gb w col (st.write [s.data.toList.getD (i + 1) 0]) (i + 2) w' := by
  have h17 := hI.2.2.2
  have h1 := hI.2.2.1
  have c0 := h.hp.cell 0
  obtain ⟨f, r, hfs⟩ : ∃ f r, st.fs = f :: r := by
    match hq : st.fs, hI.2.2.1 with
    | f :: r, _ => exact ⟨f, r, rfl⟩
    | [], hq2 => simp at hq2
  have hftx : f.row.tx.length ≤ 100000 := by
    have := hI.1
    rw [hfs, wtFs_cons] at this
    unfold wtF wtR at this
    omega
  have hflt : st.faults.length ≤ 10000000 := by have := hI.2.1; omega
  have HLR : Hid (len = r.length + 1) := by unfold Hid; rw [hl, hfs]; rfl
  have hr17 : r.length ≤ 17 := by have := HLR.out; omega
  have rz : (s.extract i s.size).size = s.size - i := by simp
  have rz1 : 0 < (s.extract i s.size).size := by omega
  have rz2 : (s.extract i s.size).size ≤ 100000 := by omega
  have G0 : Hid ((s.extract i s.size)[0]'rz1 = s.data.toList.getD i 0) := rest_get (s := s) (i := i) 0 rz1
  have RL := Lib.hid (rest_list s i)
  have q92 : ((((s.extract i s.size)[0]'rz1).toNat : Int) == 92) = true := by
    rw [G0.out]; exact isB (d := 92) rfl hc
  have rz3 : 1 < (s.extract i s.size).size := by omega
  have e1 : IntKind.i64.wrap ((i : Int) + 2) = ((i + 2 : Nat) : Int) := by rw [show (i : Int) + 2 = ((i + 2 : Nat) : Int) by omega]; exact IntWalk.i64_in _ (by omega)
  have ce : ∀ w, Calls Tryz.prog 50 #[.int .u8 (((s.extract i s.size)[1]'rz3).toNat : Int)] w fun e w' => e = .returned (.bool true) ∧ w = w' := fun w => by
    have := escaped_any ((s.extract i s.size)[1]'rz3) w
    rw [rest_get 1 rz3, he] at this
    rw [rest_get 1 rz3]
    exact this
  have RX : Hid (((s.extract i s.size).extract 1 2).data.toList = [s.data.toList.getD (i + 1) 0]) := by
    unfold Hid
    rw [cut_list, rest_list, List.drop_drop]
    have hlt : i + 1 < s.data.toList.length := by simpa using hn
    rw [List.drop_eq_getElem_cons hlt, List.getD_eq_getElem?_getD, List.getElem?_eq_getElem hlt]
    rfl
  have C0 := Lib.hid c0
  have H := Lib.hid h
  have HPD := Lib.hid (fun k => PSx.drewN h k)
  have HFS := Lib.hid hfs
  have HL := Lib.hid hl
  clear hc he hm hI h1 h17 h hl hfs G0 RL
  obtain ⟨R, hR⟩ : ∃ R, s.extract i s.size = R := ⟨_, rfl⟩
  rw [hR] at rz
  have RZ := Lib.hid rz
  clear rz
  simp only [hR] at rz1 rz2 rz3 q92 ce RX
  have rz4 : (2 : Int) ≤ (R.size : Int) := by omega
  go_enter Tryz.func37, Tryz.ntmps37
  go_wp2_with (first
    | (go_at_call 50; refine (ce _).mono ?_; rintro e w' ⟨rfl, rfl⟩)
    | fail)
  refine wp_region_held_drew (S := (fun w' => w'.cell? ⟨pb, 0, none⟩ = some (.string s))) (by kernel_rfl) ?_ (fun hHeld0 => ?_)
  · (try dsimp only)
    first | exact C0.out | exact z0
  refine wpAnyH_take (i := 0) (v := ?_) rfl (by kernel_rfl) (by kernel_rfl) (by kernel_rfl) (fun _ _ _ h => h) (Or.inl ⟨by kernel_rfl, ?_⟩) (by assumption) ?_
  rotate_left
  · (intro w hSw; (try dsimp only at hSw); go_simp; (first | done | with_reducible rfl))
  (try simp only [Act.put, List.setIfInBounds_toArray, List.set_cons_zero, List.set_cons_succ])
  refine wpAnyH_take (i := 4) (v := ?_) rfl (by kernel_rfl) (by kernel_rfl) (by kernel_rfl) (fun _ _ _ h => h) (Or.inl ⟨by kernel_rfl, ?_⟩) (by assumption) ?_
  rotate_left
  · (intro w hSw; (try dsimp only at hSw); go_simp; (first | done | with_reducible rfl))
  (try simp only [Act.put, List.setIfInBounds_toArray, List.set_cons_zero, List.set_cons_succ])
  refine wpAnyH_take (i := 5) (v := ?_) rfl (by kernel_rfl) (by kernel_rfl) (by kernel_rfl) (fun _ _ _ h => h) (Or.inl ⟨by kernel_rfl, ?_⟩) (by assumption) ?_
  rotate_left
  · (intro w hSw; (try dsimp only at hSw); go_simp; (first | done | with_reducible rfl))
  (try simp only [Act.put, List.setIfInBounds_toArray, List.set_cons_zero, List.set_cons_succ])
  refine wpAnyH_ready (rs := [1]) (by kernel_rfl) (by simp) ?_
  refine AllReadyH.cons rfl (fun K hK => ?_) AllReadyH.nil
  go_simp
  refine (top_any (n := r.length) (by rw [← HLR.out]; exact HPD.out _) (by omega)).mono ?_
  rintro e w3 ⟨rfl, kk, rfl⟩
  go_wp2_with fail
  refine hK.out _ _ ?_ (fun hHeld1 => ?_)
  · (try dsimp only)
    first | exact C0.out | exact z0
  clear hK K hHeld0
  (try simp only [Act.put, List.setIfInBounds_toArray, List.set_cons_zero, List.set_cons_succ])
  refine wpAnyH_take (i := 2) (v := ?_) rfl (by kernel_rfl) (by kernel_rfl) (by kernel_rfl) (fun _ _ _ h => h) (Or.inl ⟨by kernel_rfl, ?_⟩) (by assumption) ?_
  rotate_left
  · (intro w hSw; (try dsimp only at hSw); go_simp; (first | done | with_reducible rfl))
  (try simp only [Act.put, List.setIfInBounds_toArray, List.set_cons_zero, List.set_cons_succ])
  refine wpAnyH_take (i := 3) (v := ?_) rfl (by kernel_rfl) (by kernel_rfl) (by kernel_rfl) (fun _ _ _ h => h) (Or.inl ⟨by kernel_rfl, ?_⟩) (by assumption) ?_
  rotate_left
  · (intro w hSw; (try dsimp only at hSw); go_simp; (first | done | with_reducible rfl))
  (try simp only [Act.put, List.setIfInBounds_toArray, List.set_cons_zero, List.set_cons_succ])
  refine wpAnyH_ready (rs := [6]) (by kernel_rfl) (by simp) ?_
  refine AllReadyH.cons rfl (fun K hK => ?_) AllReadyH.nil
  go_simp
  refine (writeTop_any (HPD.out _) HFS.out (R.extract 1 2) (by simp; omega) (by omega)).mono ?_
  rintro e w4 ⟨rfl, col4, cs4, h4, st4⟩
  have st5 := st4.undrew
  have H4 := Lib.hid h4
  have ST4 := Lib.hid st5
  have z0 := h4.hp.cell 0
  clear h4 st4 st5
  go_wp2_with fail
  refine hK.out _ _ ?_ (fun hHeld2 => ?_)
  · (try dsimp only)
    first | exact C0.out | exact z0
  clear hK K hHeld1
  (try simp only [Act.put, List.setIfInBounds_toArray, List.set_cons_zero, List.set_cons_succ])
  refine wpAnyH_done (by kernel_rfl) ?_ _
  go_wp2
  go_ret
  refine ⟨rfl, col4, ob, cap, fv, cs4, gn, ?_, ST4.out⟩
  have e : (R.extract 1 2).data.toList = [s.data.toList.getD (i + 1) 0] := RX.out
  have H5 := H4.out
  rw [e] at H5
  rw [writeLen, ← HL.out]
  exact H5.on (by omega)
set_option maxRecDepth 100000 in
set_option maxHeartbeats 2000000 in
theorem step_code (h : PSx Tryz.prog w B col pb ob cap len s st i fv gb cs gn) (hl : len = st.fs.length) (hI : Inv st i) (hi : i < s.size) (hs : s.size ≤ 100000) (m : Int) (hm : w.cell? ⟨0, 0, none⟩ = some (.int .i64 m)) (hB : 0 < B) (hc : s.data.toList.getD i 0 = 96) :
    Calls Tryz.prog 37 #[.pointer (some ⟨pb, 0, none⟩), .int .i64 (i : Int)] w fun e w' => e = .returned (.int .i64 (((st.between s.data.toList i [96] [96] codeS).2 : Nat) : Int)) ∧ StepPost B pb s gb w col (st.between s.data.toList i [96] [96] codeS).1 ((st.between s.data.toList i [96] [96] codeS).2) w' := by
  have h17 := hI.2.2.2
  have h1 := hI.2.2.1
  have c0 := h.hp.cell 0
  obtain ⟨f, r, hfs⟩ : ∃ f r, st.fs = f :: r := by
    match hq : st.fs, hI.2.2.1 with
    | f :: r, _ => exact ⟨f, r, rfl⟩
    | [], hq2 => simp at hq2
  have hftx : f.row.tx.length ≤ 100000 := by
    have := hI.1
    rw [hfs, wtFs_cons] at this
    unfold wtF wtR at this
    omega
  have hflt : st.faults.length ≤ 10000000 := by have := hI.2.1; omega
  have HLR : Hid (len = r.length + 1) := by unfold Hid; rw [hl, hfs]; rfl
  have hr17 : r.length ≤ 17 := by have := HLR.out; omega
  have rz : (s.extract i s.size).size = s.size - i := by simp
  have rz1 : 0 < (s.extract i s.size).size := by omega
  have rz2 : (s.extract i s.size).size ≤ 100000 := by omega
  have G0 : Hid ((s.extract i s.size)[0]'rz1 = s.data.toList.getD i 0) := rest_get (s := s) (i := i) 0 rz1
  have RL := Lib.hid (rest_list s i)
  have q92 : ((((s.extract i s.size)[0]'rz1).toNat : Int) == 92) = false := by
    rw [G0.out]; exact neB (d := 92) rfl (by rw [hc]; decide)
  have q96 : ((((s.extract i s.size)[0]'rz1).toNat : Int) == 96) = true := by
    rw [G0.out]; exact isB (d := 96) rfl hc
  have cb : Calls Tryz.prog 68 #[.pointer (some ⟨pb, 0, none⟩), .int .i64 (i : Int), .string ⟨#[96]⟩, .string ⟨#[96]⟩, .func (.func 69) #[] #[]] w fun e w' => e = .returned (.int .i64 ((st.between s.data.toList i [96] [96] codeS).2 : Nat)) ∧ StepPost B pb s gb w col (st.between s.data.toList i [96] [96] codeS).1 (st.between s.data.toList i [96] [96] codeS).2 w' :=
    between_any h hl hI ⟨#[96]⟩ ⟨#[96]⟩ (by decide) (by decide) (by decide) (by decide) (by show i + 1 ≤ s.size; omega) hs _ m hm hB code_any (.inl rfl)
  have C0 := Lib.hid c0
  have H := Lib.hid h
  have HPD := Lib.hid (fun k => PSx.drewN h k)
  have HFS := Lib.hid hfs
  have HL := Lib.hid hl
  have HI := Lib.hid hI
  generalize st.between s.data.toList i [96] [96] codeS = bt at cb
  clear hc hm hI h1 h17 h hl hfs G0 RL
  obtain ⟨R, hR⟩ : ∃ R, s.extract i s.size = R := ⟨_, rfl⟩
  rw [hR] at rz
  have RZ := Lib.hid rz
  clear rz
  simp only [hR] at rz1 rz2 q92 q96
  go_enter Tryz.func37, Tryz.ntmps37
  go_wp2_with (first
    | (go_at_call 68; refine cb.mono ?_; rintro e w' ⟨rfl, hpost⟩)
    | fail)
  go_ret
  exact ⟨rfl, hpost⟩
set_option maxRecDepth 100000 in
set_option maxHeartbeats 2000000 in
theorem step_ref (h : PSx Tryz.prog w B col pb ob cap len s st i fv gb cs gn) (hl : len = st.fs.length) (hI : Inv st i) (hi : i < s.size) (hs : s.size ≤ 100000) (m : Int) (hm : w.cell? ⟨0, 0, none⟩ = some (.int .i64 m)) (hB : 0 < B) (hc : s.data.toList.getD i 0 = 60) (hp : [60, 60].isPrefixOf (s.data.toList.drop i) = true) :
    Calls Tryz.prog 37 #[.pointer (some ⟨pb, 0, none⟩), .int .i64 (i : Int)] w fun e w' => e = .returned (.int .i64 (((st.between s.data.toList i [60, 60] [62, 62] refS).2 : Nat) : Int)) ∧ StepPost B pb s gb w col (st.between s.data.toList i [60, 60] [62, 62] refS).1 ((st.between s.data.toList i [60, 60] [62, 62] refS).2) w' := by
  have h17 := hI.2.2.2
  have h1 := hI.2.2.1
  have c0 := h.hp.cell 0
  obtain ⟨f, r, hfs⟩ : ∃ f r, st.fs = f :: r := by
    match hq : st.fs, hI.2.2.1 with
    | f :: r, _ => exact ⟨f, r, rfl⟩
    | [], hq2 => simp at hq2
  have hftx : f.row.tx.length ≤ 100000 := by
    have := hI.1
    rw [hfs, wtFs_cons] at this
    unfold wtF wtR at this
    omega
  have hflt : st.faults.length ≤ 10000000 := by have := hI.2.1; omega
  have HLR : Hid (len = r.length + 1) := by unfold Hid; rw [hl, hfs]; rfl
  have hr17 : r.length ≤ 17 := by have := HLR.out; omega
  have rz : (s.extract i s.size).size = s.size - i := by simp
  have rz1 : 0 < (s.extract i s.size).size := by omega
  have rz2 : (s.extract i s.size).size ≤ 100000 := by omega
  have G0 : Hid ((s.extract i s.size)[0]'rz1 = s.data.toList.getD i 0) := rest_get (s := s) (i := i) 0 rz1
  have RL := Lib.hid (rest_list s i)
  have q92 : ((((s.extract i s.size)[0]'rz1).toNat : Int) == 92) = false := by
    rw [G0.out]; exact neB (d := 92) rfl (by rw [hc]; decide)
  have q96 : ((((s.extract i s.size)[0]'rz1).toNat : Int) == 96) = false := by
    rw [G0.out]; exact neB (d := 96) rfl (by rw [hc]; decide)
  have p60 : ∀ w, Calls Tryz.prog 70 #[.string (s.extract i s.size), .string ⟨#[60, 60]⟩] w fun e w' => e = .returned (.bool true) ∧ w' = w := fun w => by
    have := Tryz.strings_HasPrefix (s.extract i s.size) ⟨#[60, 60]⟩ w
    rw [pre_hasPrefix, RL.out, show (ByteArray.mk #[60, 60]).data.toList = [60, 60] from rfl, hp] at this
    exact this
  have cb : Calls Tryz.prog 68 #[.pointer (some ⟨pb, 0, none⟩), .int .i64 (i : Int), .string ⟨#[60, 60]⟩, .string ⟨#[62, 62]⟩, .func (.func 71) #[] #[]] w fun e w' => e = .returned (.int .i64 ((st.between s.data.toList i [60, 60] [62, 62] refS).2 : Nat)) ∧ StepPost B pb s gb w col (st.between s.data.toList i [60, 60] [62, 62] refS).1 (st.between s.data.toList i [60, 60] [62, 62] refS).2 w' :=
    between_any h hl hI ⟨#[60, 60]⟩ ⟨#[62, 62]⟩ (by decide) (by decide) (by decide) (by decide) (by have := prefix_two hp; simp at this; show i + 2 ≤ s.size; omega) hs _ m hm hB ref_any (.inr (.inl rfl))
  have C0 := Lib.hid c0
  have H := Lib.hid h
  have HPD := Lib.hid (fun k => PSx.drewN h k)
  have HFS := Lib.hid hfs
  have HL := Lib.hid hl
  have HI := Lib.hid hI
  generalize st.between s.data.toList i [60, 60] [62, 62] refS = bt at cb
  clear hc hm hI h1 h17 h hl hfs G0 RL
  obtain ⟨R, hR⟩ : ∃ R, s.extract i s.size = R := ⟨_, rfl⟩
  rw [hR] at rz
  have RZ := Lib.hid rz
  clear rz
  simp only [hR] at rz1 rz2 q92 q96 p60
  go_enter Tryz.func37, Tryz.ntmps37
  go_wp2_with (first
    | (go_at_call 70; (with_reducible refine (p60 _).mono ?_); rintro e w' ⟨rfl, rfl⟩)
    | (go_at_call 68; refine cb.mono ?_; rintro e w' ⟨rfl, hpost⟩)
    | fail)
  go_ret
  exact ⟨rfl, hpost⟩
set_option maxRecDepth 100000 in
set_option maxHeartbeats 2000000 in
theorem step_term (h : PSx Tryz.prog w B col pb ob cap len s st i fv gb cs gn) (hl : len = st.fs.length) (hI : Inv st i) (hi : i < s.size) (hs : s.size ≤ 100000) (m : Int) (hm : w.cell? ⟨0, 0, none⟩ = some (.int .i64 m)) (hB : 0 < B) (hc : s.data.toList.getD i 0 = 40) (hp : [40, 40].isPrefixOf (s.data.toList.drop i) = true) :
    Calls Tryz.prog 37 #[.pointer (some ⟨pb, 0, none⟩), .int .i64 (i : Int)] w fun e w' => e = .returned (.int .i64 (((st.between s.data.toList i [40, 40] [41, 41] termS).2 : Nat) : Int)) ∧ StepPost B pb s gb w col (st.between s.data.toList i [40, 40] [41, 41] termS).1 ((st.between s.data.toList i [40, 40] [41, 41] termS).2) w' := by
  have h17 := hI.2.2.2
  have h1 := hI.2.2.1
  have c0 := h.hp.cell 0
  obtain ⟨f, r, hfs⟩ : ∃ f r, st.fs = f :: r := by
    match hq : st.fs, hI.2.2.1 with
    | f :: r, _ => exact ⟨f, r, rfl⟩
    | [], hq2 => simp at hq2
  have hftx : f.row.tx.length ≤ 100000 := by
    have := hI.1
    rw [hfs, wtFs_cons] at this
    unfold wtF wtR at this
    omega
  have hflt : st.faults.length ≤ 10000000 := by have := hI.2.1; omega
  have HLR : Hid (len = r.length + 1) := by unfold Hid; rw [hl, hfs]; rfl
  have hr17 : r.length ≤ 17 := by have := HLR.out; omega
  have rz : (s.extract i s.size).size = s.size - i := by simp
  have rz1 : 0 < (s.extract i s.size).size := by omega
  have rz2 : (s.extract i s.size).size ≤ 100000 := by omega
  have G0 : Hid ((s.extract i s.size)[0]'rz1 = s.data.toList.getD i 0) := rest_get (s := s) (i := i) 0 rz1
  have RL := Lib.hid (rest_list s i)
  have q92 : ((((s.extract i s.size)[0]'rz1).toNat : Int) == 92) = false := by
    rw [G0.out]; exact neB (d := 92) rfl (by rw [hc]; decide)
  have q96 : ((((s.extract i s.size)[0]'rz1).toNat : Int) == 96) = false := by
    rw [G0.out]; exact neB (d := 96) rfl (by rw [hc]; decide)
  have p60 : ∀ w, Calls Tryz.prog 70 #[.string (s.extract i s.size), .string ⟨#[60, 60]⟩] w fun e w' => e = .returned (.bool false) ∧ w' = w := fun w => by
    have := Tryz.strings_HasPrefix (s.extract i s.size) ⟨#[60, 60]⟩ w
    rw [pre_hasPrefix, RL.out, show (ByteArray.mk #[60, 60]).data.toList = [60, 60] from rfl, pre_ne (by simpa using hi) (by rw [hc]; decide)] at this
    exact this
  have p40 : ∀ w, Calls Tryz.prog 70 #[.string (s.extract i s.size), .string ⟨#[40, 40]⟩] w fun e w' => e = .returned (.bool true) ∧ w' = w := fun w => by
    have := Tryz.strings_HasPrefix (s.extract i s.size) ⟨#[40, 40]⟩ w
    rw [pre_hasPrefix, RL.out, show (ByteArray.mk #[40, 40]).data.toList = [40, 40] from rfl, hp] at this
    exact this
  have cb : Calls Tryz.prog 68 #[.pointer (some ⟨pb, 0, none⟩), .int .i64 (i : Int), .string ⟨#[40, 40]⟩, .string ⟨#[41, 41]⟩, .func (.func 72) #[] #[]] w fun e w' => e = .returned (.int .i64 ((st.between s.data.toList i [40, 40] [41, 41] termS).2 : Nat)) ∧ StepPost B pb s gb w col (st.between s.data.toList i [40, 40] [41, 41] termS).1 (st.between s.data.toList i [40, 40] [41, 41] termS).2 w' :=
    between_any h hl hI ⟨#[40, 40]⟩ ⟨#[41, 41]⟩ (by decide) (by decide) (by decide) (by decide) (by have := prefix_two hp; simp at this; show i + 2 ≤ s.size; omega) hs _ m hm hB term_any (.inr (.inr rfl))
  have C0 := Lib.hid c0
  have H := Lib.hid h
  have HPD := Lib.hid (fun k => PSx.drewN h k)
  have HFS := Lib.hid hfs
  have HL := Lib.hid hl
  have HI := Lib.hid hI
  generalize st.between s.data.toList i [40, 40] [41, 41] termS = bt at cb
  clear hc hm hI h1 h17 h hl hfs G0 RL
  obtain ⟨R, hR⟩ : ∃ R, s.extract i s.size = R := ⟨_, rfl⟩
  rw [hR] at rz
  have RZ := Lib.hid rz
  clear rz
  simp only [hR] at rz1 rz2 q92 q96 p60 p40
  go_enter Tryz.func37, Tryz.ntmps37
  go_wp2_with (first
    | (go_at_call 70; (with_reducible refine (p60 _).mono ?_); rintro e w' ⟨rfl, rfl⟩)
    | (go_at_call 70; (with_reducible refine (p40 _).mono ?_); rintro e w' ⟨rfl, rfl⟩)
    | (go_at_call 68; refine cb.mono ?_; rintro e w' ⟨rfl, hpost⟩)
    | fail)
  go_ret
  exact ⟨rfl, hpost⟩
set_option maxRecDepth 100000 in
set_option maxHeartbeats 2000000 in
theorem step_note (h : PSx Tryz.prog w B col pb ob cap len s st i fv gb cs gn) (hl : len = st.fs.length) (hI : Inv st i) (hi : i < s.size) (hs : s.size ≤ 100000) (m : Int) (hm : w.cell? ⟨0, 0, none⟩ = some (.int .i64 m)) (hB : 0 < B) (hc : s.data.toList.getD i 0 = 94) (hp : [94, 91].isPrefixOf (s.data.toList.drop i) = true) (hr : st.room = true) :
    Calls Tryz.prog 37 #[.pointer (some ⟨pb, 0, none⟩), .int .i64 (i : Int)] w fun e w' => e = .returned (.int .i64 ((i + 2 : Nat) : Int)) ∧ StepPost B pb s gb w col (st.begin 6 i [94, 91]) (i + 2) w' := by
  have h17 := hI.2.2.2
  have h1 := hI.2.2.1
  have c0 := h.hp.cell 0
  obtain ⟨f, r, hfs⟩ : ∃ f r, st.fs = f :: r := by
    match hq : st.fs, hI.2.2.1 with
    | f :: r, _ => exact ⟨f, r, rfl⟩
    | [], hq2 => simp at hq2
  have hftx : f.row.tx.length ≤ 100000 := by
    have := hI.1
    rw [hfs, wtFs_cons] at this
    unfold wtF wtR at this
    omega
  have hflt : st.faults.length ≤ 10000000 := by have := hI.2.1; omega
  have HLR : Hid (len = r.length + 1) := by unfold Hid; rw [hl, hfs]; rfl
  have hr17 : r.length ≤ 17 := by have := HLR.out; omega
  have rz : (s.extract i s.size).size = s.size - i := by simp
  have rz1 : 0 < (s.extract i s.size).size := by omega
  have rz2 : (s.extract i s.size).size ≤ 100000 := by omega
  have G0 : Hid ((s.extract i s.size)[0]'rz1 = s.data.toList.getD i 0) := rest_get (s := s) (i := i) 0 rz1
  have RL := Lib.hid (rest_list s i)
  have q92 : ((((s.extract i s.size)[0]'rz1).toNat : Int) == 92) = false := by
    rw [G0.out]; exact neB (d := 92) rfl (by rw [hc]; decide)
  have q96 : ((((s.extract i s.size)[0]'rz1).toNat : Int) == 96) = false := by
    rw [G0.out]; exact neB (d := 96) rfl (by rw [hc]; decide)
  have p60 : ∀ w, Calls Tryz.prog 70 #[.string (s.extract i s.size), .string ⟨#[60, 60]⟩] w fun e w' => e = .returned (.bool false) ∧ w' = w := fun w => by
    have := Tryz.strings_HasPrefix (s.extract i s.size) ⟨#[60, 60]⟩ w
    rw [pre_hasPrefix, RL.out, show (ByteArray.mk #[60, 60]).data.toList = [60, 60] from rfl, pre_ne (by simpa using hi) (by rw [hc]; decide)] at this
    exact this
  have p40 : ∀ w, Calls Tryz.prog 70 #[.string (s.extract i s.size), .string ⟨#[40, 40]⟩] w fun e w' => e = .returned (.bool false) ∧ w' = w := fun w => by
    have := Tryz.strings_HasPrefix (s.extract i s.size) ⟨#[40, 40]⟩ w
    rw [pre_hasPrefix, RL.out, show (ByteArray.mk #[40, 40]).data.toList = [40, 40] from rfl, pre_ne (by simpa using hi) (by rw [hc]; decide)] at this
    exact this
  have p94 : ∀ w, Calls Tryz.prog 70 #[.string (s.extract i s.size), .string ⟨#[94, 91]⟩] w fun e w' => e = .returned (.bool true) ∧ w' = w := fun w => by
    have := Tryz.strings_HasPrefix (s.extract i s.size) ⟨#[94, 91]⟩ w
    rw [pre_hasPrefix, RL.out, show (ByteArray.mk #[94, 91]).data.toList = [94, 91] from rfl, hp] at this
    exact this
  have e1 : IntKind.i64.wrap ((i : Int) + 2) = ((i + 2 : Nat) : Int) := by rw [show (i : Int) + 2 = ((i + 2 : Nat) : Int) by omega]; exact IntWalk.i64_in _ (by omega)
  have hin := prefix_two hp
  simp only [Array.length_toList, ByteArray.size_data] at hin
  have cr := room_any h hl (by omega) (by omega)
  rw [hr] at cr
  have C0 := Lib.hid c0
  have H := Lib.hid h
  have HPD := Lib.hid (fun k => PSx.drewN h k)
  have HFS := Lib.hid hfs
  have HL := Lib.hid hl
  have HI := Lib.hid hI
  have cbg := begin_any h hl (by omega) 6 i [94, 91]
  clear hc hr hp hm hI h1 h17 h hl hfs G0 RL
  obtain ⟨R, hR⟩ : ∃ R, s.extract i s.size = R := ⟨_, rfl⟩
  rw [hR] at rz
  have RZ := Lib.hid rz
  clear rz
  simp only [hR] at rz1 rz2 q92 q96 p60 p40 p94
  go_enter Tryz.func37, Tryz.ntmps37
  go_wp2_with (first
    | (go_at_call 70; (with_reducible refine (p60 _).mono ?_); rintro e w' ⟨rfl, rfl⟩)
    | (go_at_call 70; (with_reducible refine (p40 _).mono ?_); rintro e w' ⟨rfl, rfl⟩)
    | (go_at_call 70; (with_reducible refine (p94 _).mono ?_); rintro e w' ⟨rfl, rfl⟩)
    | (go_at_call 73; refine cr.mono ?_; rintro e w' ⟨rfl, rfl⟩)
    | fail)
  refine cbg.mono ?_
  clear cbg
  rintro e w2 ⟨rfl, col2, ob2, cap2, cs2, h2, st2⟩
  have H2 := Lib.hid h2
  have ST2 := Lib.hid st2
  clear h2 st2
  go_wp2
  go_ret
  exact ⟨rfl, col2, ob2, cap2, fv, cs2, gn, by rw [beginLen, ← HL.out]; exact H2.out.on (by omega), ST2.out⟩
set_option maxRecDepth 100000 in
set_option maxHeartbeats 2000000 in
theorem step_full (h : PSx Tryz.prog w B col pb ob cap len s st i fv gb cs gn) (hl : len = st.fs.length) (hI : Inv st i) (hi : i < s.size) (hs : s.size ≤ 100000) (m : Int) (hm : w.cell? ⟨0, 0, none⟩ = some (.int .i64 m)) (hB : 0 < B) (hc : s.data.toList.getD i 0 = 94) (hp : [94, 91].isPrefixOf (s.data.toList.drop i) = true) (hr : st.room = false) :
    Calls Tryz.prog 37 #[.pointer (some ⟨pb, 0, none⟩), .int .i64 (i : Int)] w fun e w' => e = .returned (.int .i64 ((i + 2 : Nat) : Int)) ∧ StepPost B pb s gb w col ((st.write [94, 91]).tell i 7) (i + 2) w' := by
  have h17 := hI.2.2.2
  have h1 := hI.2.2.1
  have c0 := h.hp.cell 0
  obtain ⟨f, r, hfs⟩ : ∃ f r, st.fs = f :: r := by
    match hq : st.fs, hI.2.2.1 with
    | f :: r, _ => exact ⟨f, r, rfl⟩
    | [], hq2 => simp at hq2
  have hftx : f.row.tx.length ≤ 100000 := by
    have := hI.1
    rw [hfs, wtFs_cons] at this
    unfold wtF wtR at this
    omega
  have hflt : st.faults.length ≤ 10000000 := by have := hI.2.1; omega
  have HLR : Hid (len = r.length + 1) := by unfold Hid; rw [hl, hfs]; rfl
  have hr17 : r.length ≤ 17 := by have := HLR.out; omega
  have rz : (s.extract i s.size).size = s.size - i := by simp
  have rz1 : 0 < (s.extract i s.size).size := by omega
  have rz2 : (s.extract i s.size).size ≤ 100000 := by omega
  have G0 : Hid ((s.extract i s.size)[0]'rz1 = s.data.toList.getD i 0) := rest_get (s := s) (i := i) 0 rz1
  have RL := Lib.hid (rest_list s i)
  have q92 : ((((s.extract i s.size)[0]'rz1).toNat : Int) == 92) = false := by
    rw [G0.out]; exact neB (d := 92) rfl (by rw [hc]; decide)
  have q96 : ((((s.extract i s.size)[0]'rz1).toNat : Int) == 96) = false := by
    rw [G0.out]; exact neB (d := 96) rfl (by rw [hc]; decide)
  have p60 : ∀ w, Calls Tryz.prog 70 #[.string (s.extract i s.size), .string ⟨#[60, 60]⟩] w fun e w' => e = .returned (.bool false) ∧ w' = w := fun w => by
    have := Tryz.strings_HasPrefix (s.extract i s.size) ⟨#[60, 60]⟩ w
    rw [pre_hasPrefix, RL.out, show (ByteArray.mk #[60, 60]).data.toList = [60, 60] from rfl, pre_ne (by simpa using hi) (by rw [hc]; decide)] at this
    exact this
  have p40 : ∀ w, Calls Tryz.prog 70 #[.string (s.extract i s.size), .string ⟨#[40, 40]⟩] w fun e w' => e = .returned (.bool false) ∧ w' = w := fun w => by
    have := Tryz.strings_HasPrefix (s.extract i s.size) ⟨#[40, 40]⟩ w
    rw [pre_hasPrefix, RL.out, show (ByteArray.mk #[40, 40]).data.toList = [40, 40] from rfl, pre_ne (by simpa using hi) (by rw [hc]; decide)] at this
    exact this
  have p94 : ∀ w, Calls Tryz.prog 70 #[.string (s.extract i s.size), .string ⟨#[94, 91]⟩] w fun e w' => e = .returned (.bool true) ∧ w' = w := fun w => by
    have := Tryz.strings_HasPrefix (s.extract i s.size) ⟨#[94, 91]⟩ w
    rw [pre_hasPrefix, RL.out, show (ByteArray.mk #[94, 91]).data.toList = [94, 91] from rfl, hp] at this
    exact this
  have e1 : IntKind.i64.wrap ((i : Int) + 2) = ((i + 2 : Nat) : Int) := by rw [show (i : Int) + 2 = ((i + 2 : Nat) : Int) by omega]; exact IntWalk.i64_in _ (by omega)
  have hin := prefix_two hp
  simp only [Array.length_toList, ByteArray.size_data] at hin
  have cr := room_any h hl (by omega) (by omega)
  rw [hr] at cr
  have C0 := Lib.hid c0
  have H := Lib.hid h
  have HPD := Lib.hid (fun k => PSx.drewN h k)
  have HFS := Lib.hid hfs
  have HL := Lib.hid hl
  have HI := Lib.hid hI
  clear hc hr hp hm hI h1 h17 h hl hfs G0 RL
  obtain ⟨R, hR⟩ : ∃ R, s.extract i s.size = R := ⟨_, rfl⟩
  rw [hR] at rz
  have RZ := Lib.hid rz
  clear rz
  simp only [hR] at rz1 rz2 q92 q96 p60 p40 p94
  go_enter Tryz.func37, Tryz.ntmps37
  go_wp2_with (first
    | (go_at_call 70; (with_reducible refine (p60 _).mono ?_); rintro e w' ⟨rfl, rfl⟩)
    | (go_at_call 70; (with_reducible refine (p40 _).mono ?_); rintro e w' ⟨rfl, rfl⟩)
    | (go_at_call 70; (with_reducible refine (p94 _).mono ?_); rintro e w' ⟨rfl, rfl⟩)
    | (go_at_call 73; refine cr.mono ?_; rintro e w' ⟨rfl, rfl⟩)
    | fail)
  refine (top_any (n := r.length) (by rw [← HLR.out]; exact H.out) (by omega)).mono ?_
  rintro e w2 ⟨rfl, kk, rfl⟩
  go_wp2_with fail
  refine (writeTop_any (HPD.out kk) HFS.out ⟨#[94, 91]⟩ (by decide) (by omega)).mono ?_
  rintro e w3 ⟨rfl, col3, cs3, h3, st3⟩
  have H3 := Lib.hid h3
  have ST3 := Lib.hid st3.undrew
  clear h3 st3
  go_wp2_with fail
  refine (tell_any H3.out i 7 hflt).mono ?_
  rintro e w4 ⟨rfl, col4, fv4, h4, st4⟩
  have H4 := Lib.hid h4
  have ST4 := Lib.hid (ST3.out.trans st4)
  clear h4 st4
  go_wp2
  go_ret
  exact ⟨rfl, col4, ob, cap, fv4, cs3, gn, by rw [tellLen, writeLen, ← HL.out]; exact H4.out.on (by omega), ST4.out⟩
set_option maxRecDepth 100000 in
set_option maxHeartbeats 2000000 in
theorem step_shut (h : PSx Tryz.prog w B col pb ob cap len s st i fv gb cs gn) (hl : len = st.fs.length) (hI : Inv st i) (hi : i < s.size) (hs : s.size ≤ 100000) (m : Int) (hm : w.cell? ⟨0, 0, none⟩ = some (.int .i64 m)) (hB : 0 < B) (hc : s.data.toList.getD i 0 = 93) (hn : 0 < lastK 6 st.fs) :
    Calls Tryz.prog 37 #[.pointer (some ⟨pb, 0, none⟩), .int .i64 (i : Int)] w fun e w' => e = .returned (.int .i64 ((i + 1 : Nat) : Int)) ∧ StepPost B pb s gb w col (st.fin (lastK 6 st.fs)) (i + 1) w' := by
  have h17 := hI.2.2.2
  have h1 := hI.2.2.1
  have c0 := h.hp.cell 0
  obtain ⟨f, r, hfs⟩ : ∃ f r, st.fs = f :: r := by
    match hq : st.fs, hI.2.2.1 with
    | f :: r, _ => exact ⟨f, r, rfl⟩
    | [], hq2 => simp at hq2
  have hftx : f.row.tx.length ≤ 100000 := by
    have := hI.1
    rw [hfs, wtFs_cons] at this
    unfold wtF wtR at this
    omega
  have hflt : st.faults.length ≤ 10000000 := by have := hI.2.1; omega
  have HLR : Hid (len = r.length + 1) := by unfold Hid; rw [hl, hfs]; rfl
  have hr17 : r.length ≤ 17 := by have := HLR.out; omega
  have rz : (s.extract i s.size).size = s.size - i := by simp
  have rz1 : 0 < (s.extract i s.size).size := by omega
  have rz2 : (s.extract i s.size).size ≤ 100000 := by omega
  have G0 : Hid ((s.extract i s.size)[0]'rz1 = s.data.toList.getD i 0) := rest_get (s := s) (i := i) 0 rz1
  have RL := Lib.hid (rest_list s i)
  have q92 : ((((s.extract i s.size)[0]'rz1).toNat : Int) == 92) = false := by
    rw [G0.out]; exact neB (d := 92) rfl (by rw [hc]; decide)
  have q96 : ((((s.extract i s.size)[0]'rz1).toNat : Int) == 96) = false := by
    rw [G0.out]; exact neB (d := 96) rfl (by rw [hc]; decide)
  have q93 : ((((s.extract i s.size)[0]'rz1).toNat : Int) == 93) = true := by
    rw [G0.out]; exact isB (d := 93) rfl hc
  have p60 : ∀ w, Calls Tryz.prog 70 #[.string (s.extract i s.size), .string ⟨#[60, 60]⟩] w fun e w' => e = .returned (.bool false) ∧ w' = w := fun w => by
    have := Tryz.strings_HasPrefix (s.extract i s.size) ⟨#[60, 60]⟩ w
    rw [pre_hasPrefix, RL.out, show (ByteArray.mk #[60, 60]).data.toList = [60, 60] from rfl, pre_ne (by simpa using hi) (by rw [hc]; decide)] at this
    exact this
  have p40 : ∀ w, Calls Tryz.prog 70 #[.string (s.extract i s.size), .string ⟨#[40, 40]⟩] w fun e w' => e = .returned (.bool false) ∧ w' = w := fun w => by
    have := Tryz.strings_HasPrefix (s.extract i s.size) ⟨#[40, 40]⟩ w
    rw [pre_hasPrefix, RL.out, show (ByteArray.mk #[40, 40]).data.toList = [40, 40] from rfl, pre_ne (by simpa using hi) (by rw [hc]; decide)] at this
    exact this
  have p94 : ∀ w, Calls Tryz.prog 70 #[.string (s.extract i s.size), .string ⟨#[94, 91]⟩] w fun e w' => e = .returned (.bool false) ∧ w' = w := fun w => by
    have := Tryz.strings_HasPrefix (s.extract i s.size) ⟨#[94, 91]⟩ w
    rw [pre_hasPrefix, RL.out, show (ByteArray.mk #[94, 91]).data.toList = [94, 91] from rfl, pre_ne (by simpa using hi) (by rw [hc]; decide)] at this
    exact this
  have e1 : IntKind.i64.wrap ((i : Int) + 1) = ((i + 1 : Nat) : Int) := by rw [show (i : Int) + 1 = ((i + 1 : Nat) : Int) by omega]; exact IntWalk.i64_in _ (by omega)
  have cl := last_any h hl (by omega) (by omega) 6
  have hla : lastK 6 st.fs < len := by rcases lastK_lt 6 st.fs with h0 | h0 <;> omega
  have C0 := Lib.hid c0
  have H := Lib.hid h
  have HPD := Lib.hid (fun k => PSx.drewN h k)
  have HFS := Lib.hid hfs
  have HL := Lib.hid hl
  have HI := Lib.hid hI
  generalize lastK 6 st.fs = n at cl hla hn ⊢
  clear hc hm hI h1 h17 h hl hfs G0 RL
  obtain ⟨R, hR⟩ : ∃ R, s.extract i s.size = R := ⟨_, rfl⟩
  rw [hR] at rz
  have RZ := Lib.hid rz
  clear rz
  simp only [hR] at rz1 rz2 q92 q96 q93 p60 p40 p94
  go_enter Tryz.func37, Tryz.ntmps37
  go_wp2_with (first
    | (go_at_call 70; (with_reducible refine (p60 _).mono ?_); rintro e w' ⟨rfl, rfl⟩)
    | (go_at_call 70; (with_reducible refine (p40 _).mono ?_); rintro e w' ⟨rfl, rfl⟩)
    | (go_at_call 70; (with_reducible refine (p94 _).mono ?_); rintro e w' ⟨rfl, rfl⟩)
    | (go_at_call 76; refine cl.mono ?_; rintro e w' ⟨rfl, rfl⟩)
    | fail)
  refine (end_any H.out HL.out n (by omega) hla i HI.out (by omega)).mono ?_
  rintro e w2 ⟨rfl, col2, fv2, cs2, h2, st2⟩
  have H2 := Lib.hid h2
  have ST2 := Lib.hid st2
  clear h2 st2 cl
  go_wp2
  go_ret
  have hfl := finLen HI.out (n := n) (by omega) (by rw [← HL.out]; exact hla)
  exact ⟨rfl, col2, ob, cap, fv2, cs2, gn, by rw [hfl]; exact H2.out.on (by omega), ST2.out⟩
set_option maxRecDepth 100000 in
set_option maxHeartbeats 2000000 in
theorem step_starW (h : PSx Tryz.prog w B col pb ob cap len s st i fv gb cs gn) (hl : len = st.fs.length) (hI : Inv st i) (hi : i < s.size) (hs : s.size ≤ 100000) (m : Int) (hm : w.cell? ⟨0, 0, none⟩ = some (.int .i64 m)) (hB : 0 < B) (hc : s.data.toList.getD i 0 = 42) :
    Calls Tryz.prog 37 #[.pointer (some ⟨pb, 0, none⟩), .int .i64 (i : Int)] w fun e w' => e = .returned (.int .i64 ((i + 1 : Nat) : Int)) ∧ StepPost B pb s gb w col (st.mark s.data.toList i 1) (i + 1) w' := by
  have h17 := hI.2.2.2
  have h1 := hI.2.2.1
  have c0 := h.hp.cell 0
  obtain ⟨f, r, hfs⟩ : ∃ f r, st.fs = f :: r := by
    match hq : st.fs, hI.2.2.1 with
    | f :: r, _ => exact ⟨f, r, rfl⟩
    | [], hq2 => simp at hq2
  have hftx : f.row.tx.length ≤ 100000 := by
    have := hI.1
    rw [hfs, wtFs_cons] at this
    unfold wtF wtR at this
    omega
  have hflt : st.faults.length ≤ 10000000 := by have := hI.2.1; omega
  have HLR : Hid (len = r.length + 1) := by unfold Hid; rw [hl, hfs]; rfl
  have hr17 : r.length ≤ 17 := by have := HLR.out; omega
  have rz : (s.extract i s.size).size = s.size - i := by simp
  have rz1 : 0 < (s.extract i s.size).size := by omega
  have rz2 : (s.extract i s.size).size ≤ 100000 := by omega
  have G0 : Hid ((s.extract i s.size)[0]'rz1 = s.data.toList.getD i 0) := rest_get (s := s) (i := i) 0 rz1
  have RL := Lib.hid (rest_list s i)
  have q92 : ((((s.extract i s.size)[0]'rz1).toNat : Int) == 92) = false := by
    rw [G0.out]; exact neB (d := 92) rfl (by rw [hc]; decide)
  have q96 : ((((s.extract i s.size)[0]'rz1).toNat : Int) == 96) = false := by
    rw [G0.out]; exact neB (d := 96) rfl (by rw [hc]; decide)
  have q93 : ((((s.extract i s.size)[0]'rz1).toNat : Int) == 93) = false := by
    rw [G0.out]; exact neB (d := 93) rfl (by rw [hc]; decide)
  have q42 : ((((s.extract i s.size)[0]'rz1).toNat : Int) == 42) = true := by
    rw [G0.out]; exact isB (d := 42) rfl hc
  have p60 : ∀ w, Calls Tryz.prog 70 #[.string (s.extract i s.size), .string ⟨#[60, 60]⟩] w fun e w' => e = .returned (.bool false) ∧ w' = w := fun w => by
    have := Tryz.strings_HasPrefix (s.extract i s.size) ⟨#[60, 60]⟩ w
    rw [pre_hasPrefix, RL.out, show (ByteArray.mk #[60, 60]).data.toList = [60, 60] from rfl, pre_ne (by simpa using hi) (by rw [hc]; decide)] at this
    exact this
  have p40 : ∀ w, Calls Tryz.prog 70 #[.string (s.extract i s.size), .string ⟨#[40, 40]⟩] w fun e w' => e = .returned (.bool false) ∧ w' = w := fun w => by
    have := Tryz.strings_HasPrefix (s.extract i s.size) ⟨#[40, 40]⟩ w
    rw [pre_hasPrefix, RL.out, show (ByteArray.mk #[40, 40]).data.toList = [40, 40] from rfl, pre_ne (by simpa using hi) (by rw [hc]; decide)] at this
    exact this
  have p94 : ∀ w, Calls Tryz.prog 70 #[.string (s.extract i s.size), .string ⟨#[94, 91]⟩] w fun e w' => e = .returned (.bool false) ∧ w' = w := fun w => by
    have := Tryz.strings_HasPrefix (s.extract i s.size) ⟨#[94, 91]⟩ w
    rw [pre_hasPrefix, RL.out, show (ByteArray.mk #[94, 91]).data.toList = [94, 91] from rfl, pre_ne (by simpa using hi) (by rw [hc]; decide)] at this
    exact this
  have e1 : IntKind.i64.wrap ((i : Int) + 1) = ((i + 1 : Nat) : Int) := by rw [show (i : Int) + 1 = ((i + 1 : Nat) : Int) by omega]; exact IntWalk.i64_in _ (by omega)
  have cm := mark_any h hl hI hi hs 1
  have C0 := Lib.hid c0
  have H := Lib.hid h
  have HPD := Lib.hid (fun k => PSx.drewN h k)
  have HFS := Lib.hid hfs
  have HL := Lib.hid hl
  have HI := Lib.hid hI
  clear hc hm hI h1 h17 h hl hfs G0 RL
  obtain ⟨R, hR⟩ : ∃ R, s.extract i s.size = R := ⟨_, rfl⟩
  rw [hR] at rz
  have RZ := Lib.hid rz
  clear rz
  simp only [hR] at rz1 rz2 q92 q96 q93 q42 p60 p40 p94
  go_enter Tryz.func37, Tryz.ntmps37
  go_wp2_with (first
    | (go_at_call 70; (with_reducible refine (p60 _).mono ?_); rintro e w' ⟨rfl, rfl⟩)
    | (go_at_call 70; (with_reducible refine (p40 _).mono ?_); rintro e w' ⟨rfl, rfl⟩)
    | (go_at_call 70; (with_reducible refine (p94 _).mono ?_); rintro e w' ⟨rfl, rfl⟩)
    | fail)
  refine cm.mono ?_
  clear cm
  rintro e w2 ⟨rfl, col2, ob2, cap2, fv2, cs2, h2, st2⟩
  have H2 := Lib.hid h2
  have ST2 := Lib.hid st2
  clear h2 st2
  go_wp2
  go_ret
  exact ⟨rfl, col2, ob2, cap2, fv2, cs2, gn, H2.out.on (by omega), ST2.out⟩
set_option maxRecDepth 100000 in
set_option maxHeartbeats 2000000 in
theorem step_barW (h : PSx Tryz.prog w B col pb ob cap len s st i fv gb cs gn) (hl : len = st.fs.length) (hI : Inv st i) (hi : i < s.size) (hs : s.size ≤ 100000) (m : Int) (hm : w.cell? ⟨0, 0, none⟩ = some (.int .i64 m)) (hB : 0 < B) (hc : s.data.toList.getD i 0 = 95) :
    Calls Tryz.prog 37 #[.pointer (some ⟨pb, 0, none⟩), .int .i64 (i : Int)] w fun e w' => e = .returned (.int .i64 ((i + 1 : Nat) : Int)) ∧ StepPost B pb s gb w col (st.mark s.data.toList i 2) (i + 1) w' := by
  have h17 := hI.2.2.2
  have h1 := hI.2.2.1
  have c0 := h.hp.cell 0
  obtain ⟨f, r, hfs⟩ : ∃ f r, st.fs = f :: r := by
    match hq : st.fs, hI.2.2.1 with
    | f :: r, _ => exact ⟨f, r, rfl⟩
    | [], hq2 => simp at hq2
  have hftx : f.row.tx.length ≤ 100000 := by
    have := hI.1
    rw [hfs, wtFs_cons] at this
    unfold wtF wtR at this
    omega
  have hflt : st.faults.length ≤ 10000000 := by have := hI.2.1; omega
  have HLR : Hid (len = r.length + 1) := by unfold Hid; rw [hl, hfs]; rfl
  have hr17 : r.length ≤ 17 := by have := HLR.out; omega
  have rz : (s.extract i s.size).size = s.size - i := by simp
  have rz1 : 0 < (s.extract i s.size).size := by omega
  have rz2 : (s.extract i s.size).size ≤ 100000 := by omega
  have G0 : Hid ((s.extract i s.size)[0]'rz1 = s.data.toList.getD i 0) := rest_get (s := s) (i := i) 0 rz1
  have RL := Lib.hid (rest_list s i)
  have q92 : ((((s.extract i s.size)[0]'rz1).toNat : Int) == 92) = false := by
    rw [G0.out]; exact neB (d := 92) rfl (by rw [hc]; decide)
  have q96 : ((((s.extract i s.size)[0]'rz1).toNat : Int) == 96) = false := by
    rw [G0.out]; exact neB (d := 96) rfl (by rw [hc]; decide)
  have q93 : ((((s.extract i s.size)[0]'rz1).toNat : Int) == 93) = false := by
    rw [G0.out]; exact neB (d := 93) rfl (by rw [hc]; decide)
  have q42 : ((((s.extract i s.size)[0]'rz1).toNat : Int) == 42) = false := by
    rw [G0.out]; exact neB (d := 42) rfl (by rw [hc]; decide)
  have q95 : ((((s.extract i s.size)[0]'rz1).toNat : Int) == 95) = true := by
    rw [G0.out]; exact isB (d := 95) rfl hc
  have p60 : ∀ w, Calls Tryz.prog 70 #[.string (s.extract i s.size), .string ⟨#[60, 60]⟩] w fun e w' => e = .returned (.bool false) ∧ w' = w := fun w => by
    have := Tryz.strings_HasPrefix (s.extract i s.size) ⟨#[60, 60]⟩ w
    rw [pre_hasPrefix, RL.out, show (ByteArray.mk #[60, 60]).data.toList = [60, 60] from rfl, pre_ne (by simpa using hi) (by rw [hc]; decide)] at this
    exact this
  have p40 : ∀ w, Calls Tryz.prog 70 #[.string (s.extract i s.size), .string ⟨#[40, 40]⟩] w fun e w' => e = .returned (.bool false) ∧ w' = w := fun w => by
    have := Tryz.strings_HasPrefix (s.extract i s.size) ⟨#[40, 40]⟩ w
    rw [pre_hasPrefix, RL.out, show (ByteArray.mk #[40, 40]).data.toList = [40, 40] from rfl, pre_ne (by simpa using hi) (by rw [hc]; decide)] at this
    exact this
  have p94 : ∀ w, Calls Tryz.prog 70 #[.string (s.extract i s.size), .string ⟨#[94, 91]⟩] w fun e w' => e = .returned (.bool false) ∧ w' = w := fun w => by
    have := Tryz.strings_HasPrefix (s.extract i s.size) ⟨#[94, 91]⟩ w
    rw [pre_hasPrefix, RL.out, show (ByteArray.mk #[94, 91]).data.toList = [94, 91] from rfl, pre_ne (by simpa using hi) (by rw [hc]; decide)] at this
    exact this
  have e1 : IntKind.i64.wrap ((i : Int) + 1) = ((i + 1 : Nat) : Int) := by rw [show (i : Int) + 1 = ((i + 1 : Nat) : Int) by omega]; exact IntWalk.i64_in _ (by omega)
  have cm := mark_any h hl hI hi hs 2
  have C0 := Lib.hid c0
  have H := Lib.hid h
  have HPD := Lib.hid (fun k => PSx.drewN h k)
  have HFS := Lib.hid hfs
  have HL := Lib.hid hl
  have HI := Lib.hid hI
  clear hc hm hI h1 h17 h hl hfs G0 RL
  obtain ⟨R, hR⟩ : ∃ R, s.extract i s.size = R := ⟨_, rfl⟩
  rw [hR] at rz
  have RZ := Lib.hid rz
  clear rz
  simp only [hR] at rz1 rz2 q92 q96 q93 q42 q95 p60 p40 p94
  go_enter Tryz.func37, Tryz.ntmps37
  go_wp2_with (first
    | (go_at_call 70; (with_reducible refine (p60 _).mono ?_); rintro e w' ⟨rfl, rfl⟩)
    | (go_at_call 70; (with_reducible refine (p40 _).mono ?_); rintro e w' ⟨rfl, rfl⟩)
    | (go_at_call 70; (with_reducible refine (p94 _).mono ?_); rintro e w' ⟨rfl, rfl⟩)
    | fail)
  refine cm.mono ?_
  clear cm
  rintro e w2 ⟨rfl, col2, ob2, cap2, fv2, cs2, h2, st2⟩
  have H2 := Lib.hid h2
  have ST2 := Lib.hid st2
  clear h2 st2
  go_wp2
  go_ret
  exact ⟨rfl, col2, ob2, cap2, fv2, cs2, gn, H2.out.on (by omega), ST2.out⟩
set_option maxRecDepth 100000 in
set_option maxHeartbeats 2000000 in
theorem step_short (h : PSx Tryz.prog w B col pb ob cap len s st i fv gb cs gn) (hl : len = st.fs.length) (hI : Inv st i) (hi : i < s.size) (hs : s.size ≤ 100000) (m : Int) (hm : w.cell? ⟨0, 0, none⟩ = some (.int .i64 m)) (hB : 0 < B) (hc : s.data.toList.getD i 0 = 92) (hn : ¬ i + 1 < s.size) :
    Calls Tryz.prog 37 #[.pointer (some ⟨pb, 0, none⟩), .int .i64 (i : Int)] w fun e w' => e = .returned (.int .i64 ((i + 1 : Nat) : Int)) ∧ StepPost B pb s gb w col (st.write [s.data.toList.getD i 0]) (i + 1) w' := by
  have h17 := hI.2.2.2
  have h1 := hI.2.2.1
  have c0 := h.hp.cell 0
  obtain ⟨f, r, hfs⟩ : ∃ f r, st.fs = f :: r := by
    match hq : st.fs, hI.2.2.1 with
    | f :: r, _ => exact ⟨f, r, rfl⟩
    | [], hq2 => simp at hq2
  have hftx : f.row.tx.length ≤ 100000 := by
    have := hI.1
    rw [hfs, wtFs_cons] at this
    unfold wtF wtR at this
    omega
  have hflt : st.faults.length ≤ 10000000 := by have := hI.2.1; omega
  have HLR : Hid (len = r.length + 1) := by unfold Hid; rw [hl, hfs]; rfl
  have hr17 : r.length ≤ 17 := by have := HLR.out; omega
  have rz : (s.extract i s.size).size = s.size - i := by simp
  have rz1 : 0 < (s.extract i s.size).size := by omega
  have rz2 : (s.extract i s.size).size ≤ 100000 := by omega
  have G0 : Hid ((s.extract i s.size)[0]'rz1 = s.data.toList.getD i 0) := rest_get (s := s) (i := i) 0 rz1
  have RL := Lib.hid (rest_list s i)
  have q92 : ((((s.extract i s.size)[0]'rz1).toNat : Int) == 92) = true := by
    rw [G0.out]; exact isB (d := 92) rfl hc
  have q96 : ((((s.extract i s.size)[0]'rz1).toNat : Int) == 96) = false := by
    rw [G0.out]; exact neB (d := 96) rfl (by rw [hc]; decide)
  have q93 : ((((s.extract i s.size)[0]'rz1).toNat : Int) == 93) = false := by
    rw [G0.out]; exact neB (d := 93) rfl (by rw [hc]; decide)
  have q42 : ((((s.extract i s.size)[0]'rz1).toNat : Int) == 42) = false := by
    rw [G0.out]; exact neB (d := 42) rfl (by rw [hc]; decide)
  have q95 : ((((s.extract i s.size)[0]'rz1).toNat : Int) == 95) = false := by
    rw [G0.out]; exact neB (d := 95) rfl (by rw [hc]; decide)
  have p60 : ∀ w, Calls Tryz.prog 70 #[.string (s.extract i s.size), .string ⟨#[60, 60]⟩] w fun e w' => e = .returned (.bool false) ∧ w' = w := fun w => by
    have := Tryz.strings_HasPrefix (s.extract i s.size) ⟨#[60, 60]⟩ w
    rw [pre_hasPrefix, RL.out, show (ByteArray.mk #[60, 60]).data.toList = [60, 60] from rfl, pre_ne (by simpa using hi) (by rw [hc]; decide)] at this
    exact this
  have p40 : ∀ w, Calls Tryz.prog 70 #[.string (s.extract i s.size), .string ⟨#[40, 40]⟩] w fun e w' => e = .returned (.bool false) ∧ w' = w := fun w => by
    have := Tryz.strings_HasPrefix (s.extract i s.size) ⟨#[40, 40]⟩ w
    rw [pre_hasPrefix, RL.out, show (ByteArray.mk #[40, 40]).data.toList = [40, 40] from rfl, pre_ne (by simpa using hi) (by rw [hc]; decide)] at this
    exact this
  have p94 : ∀ w, Calls Tryz.prog 70 #[.string (s.extract i s.size), .string ⟨#[94, 91]⟩] w fun e w' => e = .returned (.bool false) ∧ w' = w := fun w => by
    have := Tryz.strings_HasPrefix (s.extract i s.size) ⟨#[94, 91]⟩ w
    rw [pre_hasPrefix, RL.out, show (ByteArray.mk #[94, 91]).data.toList = [94, 91] from rfl, pre_ne (by simpa using hi) (by rw [hc]; decide)] at this
    exact this
  have e1 : IntKind.i64.wrap ((i : Int) + 1) = ((i + 1 : Nat) : Int) := by rw [show (i : Int) + 1 = ((i + 1 : Nat) : Int) by omega]; exact IntWalk.i64_in _ (by omega)
  have RX : Hid (((s.extract i s.size).extract 0 1).data.toList = [s.data.toList.getD i 0]) := by
    unfold Hid
    rw [cut_list, rest_list, List.drop_drop]
    have hlt : i < s.data.toList.length := by simpa using hi
    rw [Nat.add_zero, List.drop_eq_getElem_cons hlt, List.getD_eq_getElem?_getD, List.getElem?_eq_getElem hlt]
    rfl
  have rz3 : ((s.extract i s.size).size : Int) ≤ 1 := by omega
  have C0 := Lib.hid c0
  have H := Lib.hid h
  have HPD := Lib.hid (fun k => PSx.drewN h k)
  have HFS := Lib.hid hfs
  have HL := Lib.hid hl
  have HI := Lib.hid hI
  have rz4 : (1 : Int) ≤ ((s.extract i s.size).size : Int) := by omega
  clear hc hn hm hI h1 h17 h hl hfs G0 RL
  obtain ⟨R, hR⟩ : ∃ R, s.extract i s.size = R := ⟨_, rfl⟩
  rw [hR] at rz
  have RZ := Lib.hid rz
  clear rz
  simp only [hR] at rz1 rz2 q92 q96 q93 q42 q95 p60 p40 p94 RX rz4 rz3
  go_enter Tryz.func37, Tryz.ntmps37
  go_wp2_with (first
    | (go_at_call 70; (with_reducible refine (p60 _).mono ?_); rintro e w' ⟨rfl, rfl⟩)
    | (go_at_call 70; (with_reducible refine (p40 _).mono ?_); rintro e w' ⟨rfl, rfl⟩)
    | (go_at_call 70; (with_reducible refine (p94 _).mono ?_); rintro e w' ⟨rfl, rfl⟩)
    | fail)
  refine wp_region_held_drew (S := (fun w' => w'.cell? ⟨pb, 0, none⟩ = some (.string s))) (by kernel_rfl) ?_ (fun hHeld0 => ?_)
  · (try dsimp only)
    first | exact C0.out | exact z0
  refine wpAnyH_take (i := 0) (v := ?_) rfl (by kernel_rfl) (by kernel_rfl) (by kernel_rfl) (fun _ _ _ h => h) (Or.inl ⟨by kernel_rfl, ?_⟩) (by assumption) ?_
  rotate_left
  · (intro w hSw; (try dsimp only at hSw); go_simp; (first | done | with_reducible rfl))
  (try simp only [Act.put, List.setIfInBounds_toArray, List.set_cons_zero, List.set_cons_succ])
  refine wpAnyH_take (i := 4) (v := ?_) rfl (by kernel_rfl) (by kernel_rfl) (by kernel_rfl) (fun _ _ _ h => h) (Or.inl ⟨by kernel_rfl, ?_⟩) (by assumption) ?_
  rotate_left
  · (intro w hSw; (try dsimp only at hSw); go_simp; (first | done | with_reducible rfl))
  (try simp only [Act.put, List.setIfInBounds_toArray, List.set_cons_zero, List.set_cons_succ])
  refine wpAnyH_take (i := 5) (v := ?_) rfl (by kernel_rfl) (by kernel_rfl) (by kernel_rfl) (fun _ _ _ h => h) (Or.inl ⟨by kernel_rfl, ?_⟩) (by assumption) ?_
  rotate_left
  · (intro w hSw; (try dsimp only at hSw); go_simp; (first | done | with_reducible rfl))
  (try simp only [Act.put, List.setIfInBounds_toArray, List.set_cons_zero, List.set_cons_succ])
  refine wpAnyH_ready (rs := [1]) (by kernel_rfl) (by simp) ?_
  refine AllReadyH.cons rfl (fun K hK => ?_) AllReadyH.nil
  go_simp
  refine (top_any (n := r.length) (by rw [← HLR.out]; exact HPD.out _) (by omega)).mono ?_
  rintro e w3 ⟨rfl, kk, rfl⟩
  go_wp2_with fail
  refine hK.out _ _ ?_ (fun hHeld1 => ?_)
  · (try dsimp only)
    first | exact C0.out | exact z0
  clear hK K hHeld0
  (try simp only [Act.put, List.setIfInBounds_toArray, List.set_cons_zero, List.set_cons_succ])
  refine wpAnyH_take (i := 2) (v := ?_) rfl (by kernel_rfl) (by kernel_rfl) (by kernel_rfl) (fun _ _ _ h => h) (Or.inl ⟨by kernel_rfl, ?_⟩) (by assumption) ?_
  rotate_left
  · (intro w hSw; (try dsimp only at hSw); go_simp; (first | done | with_reducible rfl))
  (try simp only [Act.put, List.setIfInBounds_toArray, List.set_cons_zero, List.set_cons_succ])
  refine wpAnyH_take (i := 3) (v := ?_) rfl (by kernel_rfl) (by kernel_rfl) (by kernel_rfl) (fun _ _ _ h => h) (Or.inl ⟨by kernel_rfl, ?_⟩) (by assumption) ?_
  rotate_left
  · (intro w hSw; (try dsimp only at hSw); go_simp; (first | done | with_reducible rfl))
  (try simp only [Act.put, List.setIfInBounds_toArray, List.set_cons_zero, List.set_cons_succ])
  refine wpAnyH_ready (rs := [6]) (by kernel_rfl) (by simp) ?_
  refine AllReadyH.cons rfl (fun K hK => ?_) AllReadyH.nil
  go_simp
  refine (writeTop_any (HPD.out _) HFS.out (R.extract 0 1) (by simp; omega) (by omega)).mono ?_
  rintro e w4 ⟨rfl, col4, cs4, h4, st4⟩
  have st5 := st4.undrew
  have H4 := Lib.hid h4
  have ST4 := Lib.hid st5
  have z0 := h4.hp.cell 0
  clear h4 st4 st5
  go_wp2_with fail
  refine hK.out _ _ ?_ (fun hHeld2 => ?_)
  · (try dsimp only)
    first | exact C0.out | exact z0
  clear hK K hHeld1
  (try simp only [Act.put, List.setIfInBounds_toArray, List.set_cons_zero, List.set_cons_succ])
  refine wpAnyH_done (by kernel_rfl) ?_ _
  go_wp2
  go_ret
  refine ⟨rfl, col4, ob, cap, fv, cs4, gn, ?_, ST4.out⟩
  have e : (R.extract 0 1).data.toList = [s.data.toList.getD i 0] := RX.out
  have H5 := H4.out
  rw [e] at H5
  rw [writeLen, ← HL.out]
  exact H5.on (by omega)
set_option maxRecDepth 100000 in
set_option maxHeartbeats 2000000 in
theorem step_back (h : PSx Tryz.prog w B col pb ob cap len s st i fv gb cs gn) (hl : len = st.fs.length) (hI : Inv st i) (hi : i < s.size) (hs : s.size ≤ 100000) (m : Int) (hm : w.cell? ⟨0, 0, none⟩ = some (.int .i64 m)) (hB : 0 < B) (hc : s.data.toList.getD i 0 = 92) (hn : i + 1 < s.size) (he : escB (s.data.toList.getD (i + 1) 0) = false) :
    Calls Tryz.prog 37 #[.pointer (some ⟨pb, 0, none⟩), .int .i64 (i : Int)] w fun e w' => e = .returned (.int .i64 ((i + 1 : Nat) : Int)) ∧ StepPost B pb s gb w col (st.write [s.data.toList.getD i 0]) (i + 1) w' := by
  have h17 := hI.2.2.2
  have h1 := hI.2.2.1
  have c0 := h.hp.cell 0
  obtain ⟨f, r, hfs⟩ : ∃ f r, st.fs = f :: r := by
    match hq : st.fs, hI.2.2.1 with
    | f :: r, _ => exact ⟨f, r, rfl⟩
    | [], hq2 => simp at hq2
  have hftx : f.row.tx.length ≤ 100000 := by
    have := hI.1
    rw [hfs, wtFs_cons] at this
    unfold wtF wtR at this
    omega
  have hflt : st.faults.length ≤ 10000000 := by have := hI.2.1; omega
  have HLR : Hid (len = r.length + 1) := by unfold Hid; rw [hl, hfs]; rfl
  have hr17 : r.length ≤ 17 := by have := HLR.out; omega
  have rz : (s.extract i s.size).size = s.size - i := by simp
  have rz1 : 0 < (s.extract i s.size).size := by omega
  have rz2 : (s.extract i s.size).size ≤ 100000 := by omega
  have G0 : Hid ((s.extract i s.size)[0]'rz1 = s.data.toList.getD i 0) := rest_get (s := s) (i := i) 0 rz1
  have RL := Lib.hid (rest_list s i)
  have q92 : ((((s.extract i s.size)[0]'rz1).toNat : Int) == 92) = true := by
    rw [G0.out]; exact isB (d := 92) rfl hc
  have q96 : ((((s.extract i s.size)[0]'rz1).toNat : Int) == 96) = false := by
    rw [G0.out]; exact neB (d := 96) rfl (by rw [hc]; decide)
  have q93 : ((((s.extract i s.size)[0]'rz1).toNat : Int) == 93) = false := by
    rw [G0.out]; exact neB (d := 93) rfl (by rw [hc]; decide)
  have q42 : ((((s.extract i s.size)[0]'rz1).toNat : Int) == 42) = false := by
    rw [G0.out]; exact neB (d := 42) rfl (by rw [hc]; decide)
  have q95 : ((((s.extract i s.size)[0]'rz1).toNat : Int) == 95) = false := by
    rw [G0.out]; exact neB (d := 95) rfl (by rw [hc]; decide)
  have p60 : ∀ w, Calls Tryz.prog 70 #[.string (s.extract i s.size), .string ⟨#[60, 60]⟩] w fun e w' => e = .returned (.bool false) ∧ w' = w := fun w => by
    have := Tryz.strings_HasPrefix (s.extract i s.size) ⟨#[60, 60]⟩ w
    rw [pre_hasPrefix, RL.out, show (ByteArray.mk #[60, 60]).data.toList = [60, 60] from rfl, pre_ne (by simpa using hi) (by rw [hc]; decide)] at this
    exact this
  have p40 : ∀ w, Calls Tryz.prog 70 #[.string (s.extract i s.size), .string ⟨#[40, 40]⟩] w fun e w' => e = .returned (.bool false) ∧ w' = w := fun w => by
    have := Tryz.strings_HasPrefix (s.extract i s.size) ⟨#[40, 40]⟩ w
    rw [pre_hasPrefix, RL.out, show (ByteArray.mk #[40, 40]).data.toList = [40, 40] from rfl, pre_ne (by simpa using hi) (by rw [hc]; decide)] at this
    exact this
  have p94 : ∀ w, Calls Tryz.prog 70 #[.string (s.extract i s.size), .string ⟨#[94, 91]⟩] w fun e w' => e = .returned (.bool false) ∧ w' = w := fun w => by
    have := Tryz.strings_HasPrefix (s.extract i s.size) ⟨#[94, 91]⟩ w
    rw [pre_hasPrefix, RL.out, show (ByteArray.mk #[94, 91]).data.toList = [94, 91] from rfl, pre_ne (by simpa using hi) (by rw [hc]; decide)] at this
    exact this
  have e1 : IntKind.i64.wrap ((i : Int) + 1) = ((i + 1 : Nat) : Int) := by rw [show (i : Int) + 1 = ((i + 1 : Nat) : Int) by omega]; exact IntWalk.i64_in _ (by omega)
  have RX : Hid (((s.extract i s.size).extract 0 1).data.toList = [s.data.toList.getD i 0]) := by
    unfold Hid
    rw [cut_list, rest_list, List.drop_drop]
    have hlt : i < s.data.toList.length := by simpa using hi
    rw [Nat.add_zero, List.drop_eq_getElem_cons hlt, List.getD_eq_getElem?_getD, List.getElem?_eq_getElem hlt]
    rfl
  have rz3 : 1 < (s.extract i s.size).size := by omega
  have ce : ∀ w, Calls Tryz.prog 50 #[.int .u8 (((s.extract i s.size)[1]'rz3).toNat : Int)] w fun e w' => e = .returned (.bool false) ∧ w = w' := fun w => by
    have := escaped_any ((s.extract i s.size)[1]'rz3) w
    rw [rest_get 1 rz3, he] at this
    rw [rest_get 1 rz3]
    exact this
  have C0 := Lib.hid c0
  have H := Lib.hid h
  have HPD := Lib.hid (fun k => PSx.drewN h k)
  have HFS := Lib.hid hfs
  have HL := Lib.hid hl
  have HI := Lib.hid hI
  have rz4 : (1 : Int) ≤ ((s.extract i s.size).size : Int) := by omega
  clear hc he hm hI h1 h17 h hl hfs G0 RL
  obtain ⟨R, hR⟩ : ∃ R, s.extract i s.size = R := ⟨_, rfl⟩
  rw [hR] at rz
  have RZ := Lib.hid rz
  clear rz
  simp only [hR] at rz1 rz2 q92 q96 q93 q42 q95 p60 p40 p94 RX rz4 rz3 ce
  go_enter Tryz.func37, Tryz.ntmps37
  go_wp2_with (first
    | (go_at_call 70; (with_reducible refine (p60 _).mono ?_); rintro e w' ⟨rfl, rfl⟩)
    | (go_at_call 70; (with_reducible refine (p40 _).mono ?_); rintro e w' ⟨rfl, rfl⟩)
    | (go_at_call 70; (with_reducible refine (p94 _).mono ?_); rintro e w' ⟨rfl, rfl⟩)
    | (go_at_call 50; refine (ce _).mono ?_; rintro e w' ⟨rfl, rfl⟩)
    | fail)
  refine wp_region_held_drew (S := (fun w' => w'.cell? ⟨pb, 0, none⟩ = some (.string s))) (by kernel_rfl) ?_ (fun hHeld0 => ?_)
  · (try dsimp only)
    first | exact C0.out | exact z0
  refine wpAnyH_take (i := 0) (v := ?_) rfl (by kernel_rfl) (by kernel_rfl) (by kernel_rfl) (fun _ _ _ h => h) (Or.inl ⟨by kernel_rfl, ?_⟩) (by assumption) ?_
  rotate_left
  · (intro w hSw; (try dsimp only at hSw); go_simp; (first | done | with_reducible rfl))
  (try simp only [Act.put, List.setIfInBounds_toArray, List.set_cons_zero, List.set_cons_succ])
  refine wpAnyH_take (i := 4) (v := ?_) rfl (by kernel_rfl) (by kernel_rfl) (by kernel_rfl) (fun _ _ _ h => h) (Or.inl ⟨by kernel_rfl, ?_⟩) (by assumption) ?_
  rotate_left
  · (intro w hSw; (try dsimp only at hSw); go_simp; (first | done | with_reducible rfl))
  (try simp only [Act.put, List.setIfInBounds_toArray, List.set_cons_zero, List.set_cons_succ])
  refine wpAnyH_take (i := 5) (v := ?_) rfl (by kernel_rfl) (by kernel_rfl) (by kernel_rfl) (fun _ _ _ h => h) (Or.inl ⟨by kernel_rfl, ?_⟩) (by assumption) ?_
  rotate_left
  · (intro w hSw; (try dsimp only at hSw); go_simp; (first | done | with_reducible rfl))
  (try simp only [Act.put, List.setIfInBounds_toArray, List.set_cons_zero, List.set_cons_succ])
  refine wpAnyH_ready (rs := [1]) (by kernel_rfl) (by simp) ?_
  refine AllReadyH.cons rfl (fun K hK => ?_) AllReadyH.nil
  go_simp
  refine (top_any (n := r.length) (by rw [← HLR.out]; exact HPD.out _) (by omega)).mono ?_
  rintro e w3 ⟨rfl, kk, rfl⟩
  go_wp2_with fail
  refine hK.out _ _ ?_ (fun hHeld1 => ?_)
  · (try dsimp only)
    first | exact C0.out | exact z0
  clear hK K hHeld0
  (try simp only [Act.put, List.setIfInBounds_toArray, List.set_cons_zero, List.set_cons_succ])
  refine wpAnyH_take (i := 2) (v := ?_) rfl (by kernel_rfl) (by kernel_rfl) (by kernel_rfl) (fun _ _ _ h => h) (Or.inl ⟨by kernel_rfl, ?_⟩) (by assumption) ?_
  rotate_left
  · (intro w hSw; (try dsimp only at hSw); go_simp; (first | done | with_reducible rfl))
  (try simp only [Act.put, List.setIfInBounds_toArray, List.set_cons_zero, List.set_cons_succ])
  refine wpAnyH_take (i := 3) (v := ?_) rfl (by kernel_rfl) (by kernel_rfl) (by kernel_rfl) (fun _ _ _ h => h) (Or.inl ⟨by kernel_rfl, ?_⟩) (by assumption) ?_
  rotate_left
  · (intro w hSw; (try dsimp only at hSw); go_simp; (first | done | with_reducible rfl))
  (try simp only [Act.put, List.setIfInBounds_toArray, List.set_cons_zero, List.set_cons_succ])
  refine wpAnyH_ready (rs := [6]) (by kernel_rfl) (by simp) ?_
  refine AllReadyH.cons rfl (fun K hK => ?_) AllReadyH.nil
  go_simp
  refine (writeTop_any (HPD.out _) HFS.out (R.extract 0 1) (by simp; omega) (by omega)).mono ?_
  rintro e w4 ⟨rfl, col4, cs4, h4, st4⟩
  have st5 := st4.undrew
  have H4 := Lib.hid h4
  have ST4 := Lib.hid st5
  have z0 := h4.hp.cell 0
  clear h4 st4 st5
  go_wp2_with fail
  refine hK.out _ _ ?_ (fun hHeld2 => ?_)
  · (try dsimp only)
    first | exact C0.out | exact z0
  clear hK K hHeld1
  (try simp only [Act.put, List.setIfInBounds_toArray, List.set_cons_zero, List.set_cons_succ])
  refine wpAnyH_done (by kernel_rfl) ?_ _
  go_wp2
  go_ret
  refine ⟨rfl, col4, ob, cap, fv, cs4, gn, ?_, ST4.out⟩
  have e : (R.extract 0 1).data.toList = [s.data.toList.getD i 0] := RX.out
  have H5 := H4.out
  rw [e] at H5
  rw [writeLen, ← HL.out]
  exact H5.on (by omega)
set_option maxRecDepth 100000 in
set_option maxHeartbeats 2000000 in
theorem step_last (h : PSx Tryz.prog w B col pb ob cap len s st i fv gb cs gn) (hl : len = st.fs.length) (hI : Inv st i) (hi : i < s.size) (hs : s.size ≤ 100000) (m : Int) (hm : w.cell? ⟨0, 0, none⟩ = some (.int .i64 m)) (hB : 0 < B) (hc : s.data.toList.getD i 0 = 93) (hn : lastK 6 st.fs = 0) :
    Calls Tryz.prog 37 #[.pointer (some ⟨pb, 0, none⟩), .int .i64 (i : Int)] w fun e w' => e = .returned (.int .i64 ((i + 1 : Nat) : Int)) ∧ StepPost B pb s gb w col (st.write [s.data.toList.getD i 0]) (i + 1) w' := by
  have h17 := hI.2.2.2
  have h1 := hI.2.2.1
  have c0 := h.hp.cell 0
  obtain ⟨f, r, hfs⟩ : ∃ f r, st.fs = f :: r := by
    match hq : st.fs, hI.2.2.1 with
    | f :: r, _ => exact ⟨f, r, rfl⟩
    | [], hq2 => simp at hq2
  have hftx : f.row.tx.length ≤ 100000 := by
    have := hI.1
    rw [hfs, wtFs_cons] at this
    unfold wtF wtR at this
    omega
  have hflt : st.faults.length ≤ 10000000 := by have := hI.2.1; omega
  have HLR : Hid (len = r.length + 1) := by unfold Hid; rw [hl, hfs]; rfl
  have hr17 : r.length ≤ 17 := by have := HLR.out; omega
  have rz : (s.extract i s.size).size = s.size - i := by simp
  have rz1 : 0 < (s.extract i s.size).size := by omega
  have rz2 : (s.extract i s.size).size ≤ 100000 := by omega
  have G0 : Hid ((s.extract i s.size)[0]'rz1 = s.data.toList.getD i 0) := rest_get (s := s) (i := i) 0 rz1
  have RL := Lib.hid (rest_list s i)
  have q92 : ((((s.extract i s.size)[0]'rz1).toNat : Int) == 92) = false := by
    rw [G0.out]; exact neB (d := 92) rfl (by rw [hc]; decide)
  have q96 : ((((s.extract i s.size)[0]'rz1).toNat : Int) == 96) = false := by
    rw [G0.out]; exact neB (d := 96) rfl (by rw [hc]; decide)
  have q93 : ((((s.extract i s.size)[0]'rz1).toNat : Int) == 93) = true := by
    rw [G0.out]; exact isB (d := 93) rfl hc
  have q42 : ((((s.extract i s.size)[0]'rz1).toNat : Int) == 42) = false := by
    rw [G0.out]; exact neB (d := 42) rfl (by rw [hc]; decide)
  have q95 : ((((s.extract i s.size)[0]'rz1).toNat : Int) == 95) = false := by
    rw [G0.out]; exact neB (d := 95) rfl (by rw [hc]; decide)
  have p60 : ∀ w, Calls Tryz.prog 70 #[.string (s.extract i s.size), .string ⟨#[60, 60]⟩] w fun e w' => e = .returned (.bool false) ∧ w' = w := fun w => by
    have := Tryz.strings_HasPrefix (s.extract i s.size) ⟨#[60, 60]⟩ w
    rw [pre_hasPrefix, RL.out, show (ByteArray.mk #[60, 60]).data.toList = [60, 60] from rfl, pre_ne (by simpa using hi) (by rw [hc]; decide)] at this
    exact this
  have p40 : ∀ w, Calls Tryz.prog 70 #[.string (s.extract i s.size), .string ⟨#[40, 40]⟩] w fun e w' => e = .returned (.bool false) ∧ w' = w := fun w => by
    have := Tryz.strings_HasPrefix (s.extract i s.size) ⟨#[40, 40]⟩ w
    rw [pre_hasPrefix, RL.out, show (ByteArray.mk #[40, 40]).data.toList = [40, 40] from rfl, pre_ne (by simpa using hi) (by rw [hc]; decide)] at this
    exact this
  have p94 : ∀ w, Calls Tryz.prog 70 #[.string (s.extract i s.size), .string ⟨#[94, 91]⟩] w fun e w' => e = .returned (.bool false) ∧ w' = w := fun w => by
    have := Tryz.strings_HasPrefix (s.extract i s.size) ⟨#[94, 91]⟩ w
    rw [pre_hasPrefix, RL.out, show (ByteArray.mk #[94, 91]).data.toList = [94, 91] from rfl, pre_ne (by simpa using hi) (by rw [hc]; decide)] at this
    exact this
  have e1 : IntKind.i64.wrap ((i : Int) + 1) = ((i + 1 : Nat) : Int) := by rw [show (i : Int) + 1 = ((i + 1 : Nat) : Int) by omega]; exact IntWalk.i64_in _ (by omega)
  have RX : Hid (((s.extract i s.size).extract 0 1).data.toList = [s.data.toList.getD i 0]) := by
    unfold Hid
    rw [cut_list, rest_list, List.drop_drop]
    have hlt : i < s.data.toList.length := by simpa using hi
    rw [Nat.add_zero, List.drop_eq_getElem_cons hlt, List.getD_eq_getElem?_getD, List.getElem?_eq_getElem hlt]
    rfl
  have cl := last_any h hl (by omega) (by omega) 6
  rw [hn] at cl
  have C0 := Lib.hid c0
  have H := Lib.hid h
  have HPD := Lib.hid (fun k => PSx.drewN h k)
  have HFS := Lib.hid hfs
  have HL := Lib.hid hl
  have HI := Lib.hid hI
  have rz4 : (1 : Int) ≤ ((s.extract i s.size).size : Int) := by omega
  clear hc hn hm hI h1 h17 h hl hfs G0 RL
  obtain ⟨R, hR⟩ : ∃ R, s.extract i s.size = R := ⟨_, rfl⟩
  rw [hR] at rz
  have RZ := Lib.hid rz
  clear rz
  simp only [hR] at rz1 rz2 q92 q96 q93 q42 q95 p60 p40 p94 RX rz4
  go_enter Tryz.func37, Tryz.ntmps37
  go_wp2_with (first
    | (go_at_call 70; (with_reducible refine (p60 _).mono ?_); rintro e w' ⟨rfl, rfl⟩)
    | (go_at_call 70; (with_reducible refine (p40 _).mono ?_); rintro e w' ⟨rfl, rfl⟩)
    | (go_at_call 70; (with_reducible refine (p94 _).mono ?_); rintro e w' ⟨rfl, rfl⟩)
    | (go_at_call 76; refine cl.mono ?_; rintro e w' ⟨rfl, rfl⟩)
    | fail)
  refine wp_region_held_drew (S := (fun w' => w'.cell? ⟨pb, 0, none⟩ = some (.string s))) (by kernel_rfl) ?_ (fun hHeld0 => ?_)
  · (try dsimp only)
    first | exact C0.out | exact z0
  refine wpAnyH_take (i := 0) (v := ?_) rfl (by kernel_rfl) (by kernel_rfl) (by kernel_rfl) (fun _ _ _ h => h) (Or.inl ⟨by kernel_rfl, ?_⟩) (by assumption) ?_
  rotate_left
  · (intro w hSw; (try dsimp only at hSw); go_simp; (first | done | with_reducible rfl))
  (try simp only [Act.put, List.setIfInBounds_toArray, List.set_cons_zero, List.set_cons_succ])
  refine wpAnyH_take (i := 4) (v := ?_) rfl (by kernel_rfl) (by kernel_rfl) (by kernel_rfl) (fun _ _ _ h => h) (Or.inl ⟨by kernel_rfl, ?_⟩) (by assumption) ?_
  rotate_left
  · (intro w hSw; (try dsimp only at hSw); go_simp; (first | done | with_reducible rfl))
  (try simp only [Act.put, List.setIfInBounds_toArray, List.set_cons_zero, List.set_cons_succ])
  refine wpAnyH_take (i := 5) (v := ?_) rfl (by kernel_rfl) (by kernel_rfl) (by kernel_rfl) (fun _ _ _ h => h) (Or.inl ⟨by kernel_rfl, ?_⟩) (by assumption) ?_
  rotate_left
  · (intro w hSw; (try dsimp only at hSw); go_simp; (first | done | with_reducible rfl))
  (try simp only [Act.put, List.setIfInBounds_toArray, List.set_cons_zero, List.set_cons_succ])
  refine wpAnyH_ready (rs := [1]) (by kernel_rfl) (by simp) ?_
  refine AllReadyH.cons rfl (fun K hK => ?_) AllReadyH.nil
  go_simp
  refine (top_any (n := r.length) (by rw [← HLR.out]; exact HPD.out _) (by omega)).mono ?_
  rintro e w3 ⟨rfl, kk, rfl⟩
  go_wp2_with fail
  refine hK.out _ _ ?_ (fun hHeld1 => ?_)
  · (try dsimp only)
    first | exact C0.out | exact z0
  clear hK K hHeld0
  (try simp only [Act.put, List.setIfInBounds_toArray, List.set_cons_zero, List.set_cons_succ])
  refine wpAnyH_take (i := 2) (v := ?_) rfl (by kernel_rfl) (by kernel_rfl) (by kernel_rfl) (fun _ _ _ h => h) (Or.inl ⟨by kernel_rfl, ?_⟩) (by assumption) ?_
  rotate_left
  · (intro w hSw; (try dsimp only at hSw); go_simp; (first | done | with_reducible rfl))
  (try simp only [Act.put, List.setIfInBounds_toArray, List.set_cons_zero, List.set_cons_succ])
  refine wpAnyH_take (i := 3) (v := ?_) rfl (by kernel_rfl) (by kernel_rfl) (by kernel_rfl) (fun _ _ _ h => h) (Or.inl ⟨by kernel_rfl, ?_⟩) (by assumption) ?_
  rotate_left
  · (intro w hSw; (try dsimp only at hSw); go_simp; (first | done | with_reducible rfl))
  (try simp only [Act.put, List.setIfInBounds_toArray, List.set_cons_zero, List.set_cons_succ])
  refine wpAnyH_ready (rs := [6]) (by kernel_rfl) (by simp) ?_
  refine AllReadyH.cons rfl (fun K hK => ?_) AllReadyH.nil
  go_simp
  refine (writeTop_any (HPD.out _) HFS.out (R.extract 0 1) (by simp; omega) (by omega)).mono ?_
  rintro e w4 ⟨rfl, col4, cs4, h4, st4⟩
  have st5 := st4.undrew
  have H4 := Lib.hid h4
  have ST4 := Lib.hid st5
  have z0 := h4.hp.cell 0
  clear h4 st4 st5
  go_wp2_with fail
  refine hK.out _ _ ?_ (fun hHeld2 => ?_)
  · (try dsimp only)
    first | exact C0.out | exact z0
  clear hK K hHeld1
  (try simp only [Act.put, List.setIfInBounds_toArray, List.set_cons_zero, List.set_cons_succ])
  refine wpAnyH_done (by kernel_rfl) ?_ _
  go_wp2
  go_ret
  refine ⟨rfl, col4, ob, cap, fv, cs4, gn, ?_, ST4.out⟩
  have e : (R.extract 0 1).data.toList = [s.data.toList.getD i 0] := RX.out
  have H5 := H4.out
  rw [e] at H5
  rw [writeLen, ← HL.out]
  exact H5.on (by omega)
set_option maxRecDepth 100000 in
set_option maxHeartbeats 2000000 in
theorem step_text (h : PSx Tryz.prog w B col pb ob cap len s st i fv gb cs gn) (hl : len = st.fs.length) (hI : Inv st i) (hi : i < s.size) (hs : s.size ≤ 100000) (m : Int) (hm : w.cell? ⟨0, 0, none⟩ = some (.int .i64 m)) (hB : 0 < B) (n92 : s.data.toList.getD i 0 ≠ 92) (n96 : s.data.toList.getD i 0 ≠ 96) (n93 : s.data.toList.getD i 0 ≠ 93) (n42 : s.data.toList.getD i 0 ≠ 42) (n95 : s.data.toList.getD i 0 ≠ 95) (m60 : [60, 60].isPrefixOf (s.data.toList.drop i) = false) (m40 : [40, 40].isPrefixOf (s.data.toList.drop i) = false) (m94 : [94, 91].isPrefixOf (s.data.toList.drop i) = false) :
    Calls Tryz.prog 37 #[.pointer (some ⟨pb, 0, none⟩), .int .i64 (i : Int)] w fun e w' => e = .returned (.int .i64 ((i + 1 : Nat) : Int)) ∧ StepPost B pb s gb w col (st.write [s.data.toList.getD i 0]) (i + 1) w' := by
  have h17 := hI.2.2.2
  have h1 := hI.2.2.1
  have c0 := h.hp.cell 0
  obtain ⟨f, r, hfs⟩ : ∃ f r, st.fs = f :: r := by
    match hq : st.fs, hI.2.2.1 with
    | f :: r, _ => exact ⟨f, r, rfl⟩
    | [], hq2 => simp at hq2
  have hftx : f.row.tx.length ≤ 100000 := by
    have := hI.1
    rw [hfs, wtFs_cons] at this
    unfold wtF wtR at this
    omega
  have hflt : st.faults.length ≤ 10000000 := by have := hI.2.1; omega
  have HLR : Hid (len = r.length + 1) := by unfold Hid; rw [hl, hfs]; rfl
  have hr17 : r.length ≤ 17 := by have := HLR.out; omega
  have rz : (s.extract i s.size).size = s.size - i := by simp
  have rz1 : 0 < (s.extract i s.size).size := by omega
  have rz2 : (s.extract i s.size).size ≤ 100000 := by omega
  have G0 : Hid ((s.extract i s.size)[0]'rz1 = s.data.toList.getD i 0) := rest_get (s := s) (i := i) 0 rz1
  have RL := Lib.hid (rest_list s i)
  have q92 : ((((s.extract i s.size)[0]'rz1).toNat : Int) == 92) = false := by
    rw [G0.out]; exact neB (d := 92) rfl n92
  have q96 : ((((s.extract i s.size)[0]'rz1).toNat : Int) == 96) = false := by
    rw [G0.out]; exact neB (d := 96) rfl n96
  have q93 : ((((s.extract i s.size)[0]'rz1).toNat : Int) == 93) = false := by
    rw [G0.out]; exact neB (d := 93) rfl n93
  have q42 : ((((s.extract i s.size)[0]'rz1).toNat : Int) == 42) = false := by
    rw [G0.out]; exact neB (d := 42) rfl n42
  have q95 : ((((s.extract i s.size)[0]'rz1).toNat : Int) == 95) = false := by
    rw [G0.out]; exact neB (d := 95) rfl n95
  have p60 : ∀ w, Calls Tryz.prog 70 #[.string (s.extract i s.size), .string ⟨#[60, 60]⟩] w fun e w' => e = .returned (.bool false) ∧ w' = w := fun w => by
    have := Tryz.strings_HasPrefix (s.extract i s.size) ⟨#[60, 60]⟩ w
    rw [pre_hasPrefix, RL.out, show (ByteArray.mk #[60, 60]).data.toList = [60, 60] from rfl, m60] at this
    exact this
  have p40 : ∀ w, Calls Tryz.prog 70 #[.string (s.extract i s.size), .string ⟨#[40, 40]⟩] w fun e w' => e = .returned (.bool false) ∧ w' = w := fun w => by
    have := Tryz.strings_HasPrefix (s.extract i s.size) ⟨#[40, 40]⟩ w
    rw [pre_hasPrefix, RL.out, show (ByteArray.mk #[40, 40]).data.toList = [40, 40] from rfl, m40] at this
    exact this
  have p94 : ∀ w, Calls Tryz.prog 70 #[.string (s.extract i s.size), .string ⟨#[94, 91]⟩] w fun e w' => e = .returned (.bool false) ∧ w' = w := fun w => by
    have := Tryz.strings_HasPrefix (s.extract i s.size) ⟨#[94, 91]⟩ w
    rw [pre_hasPrefix, RL.out, show (ByteArray.mk #[94, 91]).data.toList = [94, 91] from rfl, m94] at this
    exact this
  have e1 : IntKind.i64.wrap ((i : Int) + 1) = ((i + 1 : Nat) : Int) := by rw [show (i : Int) + 1 = ((i + 1 : Nat) : Int) by omega]; exact IntWalk.i64_in _ (by omega)
  have RX : Hid (((s.extract i s.size).extract 0 1).data.toList = [s.data.toList.getD i 0]) := by
    unfold Hid
    rw [cut_list, rest_list, List.drop_drop]
    have hlt : i < s.data.toList.length := by simpa using hi
    rw [Nat.add_zero, List.drop_eq_getElem_cons hlt, List.getD_eq_getElem?_getD, List.getElem?_eq_getElem hlt]
    rfl
  have C0 := Lib.hid c0
  have H := Lib.hid h
  have HPD := Lib.hid (fun k => PSx.drewN h k)
  have HFS := Lib.hid hfs
  have HL := Lib.hid hl
  have HI := Lib.hid hI
  have rz4 : (1 : Int) ≤ ((s.extract i s.size).size : Int) := by omega
  clear n92 n96 n93 n42 n95 m60 m40 m94 hm hI h1 h17 h hl hfs G0 RL
  obtain ⟨R, hR⟩ : ∃ R, s.extract i s.size = R := ⟨_, rfl⟩
  rw [hR] at rz
  have RZ := Lib.hid rz
  clear rz
  simp only [hR] at rz1 rz2 q92 q96 q93 q42 q95 p60 p40 p94 RX rz4
  go_enter Tryz.func37, Tryz.ntmps37
  go_wp2_with (first
    | (go_at_call 70; (with_reducible refine (p60 _).mono ?_); rintro e w' ⟨rfl, rfl⟩)
    | (go_at_call 70; (with_reducible refine (p40 _).mono ?_); rintro e w' ⟨rfl, rfl⟩)
    | (go_at_call 70; (with_reducible refine (p94 _).mono ?_); rintro e w' ⟨rfl, rfl⟩)
    | fail)
  refine wp_region_held_drew (S := (fun w' => w'.cell? ⟨pb, 0, none⟩ = some (.string s))) (by kernel_rfl) ?_ (fun hHeld0 => ?_)
  · (try dsimp only)
    first | exact C0.out | exact z0
  refine wpAnyH_take (i := 0) (v := ?_) rfl (by kernel_rfl) (by kernel_rfl) (by kernel_rfl) (fun _ _ _ h => h) (Or.inl ⟨by kernel_rfl, ?_⟩) (by assumption) ?_
  rotate_left
  · (intro w hSw; (try dsimp only at hSw); go_simp; (first | done | with_reducible rfl))
  (try simp only [Act.put, List.setIfInBounds_toArray, List.set_cons_zero, List.set_cons_succ])
  refine wpAnyH_take (i := 4) (v := ?_) rfl (by kernel_rfl) (by kernel_rfl) (by kernel_rfl) (fun _ _ _ h => h) (Or.inl ⟨by kernel_rfl, ?_⟩) (by assumption) ?_
  rotate_left
  · (intro w hSw; (try dsimp only at hSw); go_simp; (first | done | with_reducible rfl))
  (try simp only [Act.put, List.setIfInBounds_toArray, List.set_cons_zero, List.set_cons_succ])
  refine wpAnyH_take (i := 5) (v := ?_) rfl (by kernel_rfl) (by kernel_rfl) (by kernel_rfl) (fun _ _ _ h => h) (Or.inl ⟨by kernel_rfl, ?_⟩) (by assumption) ?_
  rotate_left
  · (intro w hSw; (try dsimp only at hSw); go_simp; (first | done | with_reducible rfl))
  (try simp only [Act.put, List.setIfInBounds_toArray, List.set_cons_zero, List.set_cons_succ])
  refine wpAnyH_ready (rs := [1]) (by kernel_rfl) (by simp) ?_
  refine AllReadyH.cons rfl (fun K hK => ?_) AllReadyH.nil
  go_simp
  refine (top_any (n := r.length) (by rw [← HLR.out]; exact HPD.out _) (by omega)).mono ?_
  rintro e w3 ⟨rfl, kk, rfl⟩
  go_wp2_with fail
  refine hK.out _ _ ?_ (fun hHeld1 => ?_)
  · (try dsimp only)
    first | exact C0.out | exact z0
  clear hK K hHeld0
  (try simp only [Act.put, List.setIfInBounds_toArray, List.set_cons_zero, List.set_cons_succ])
  refine wpAnyH_take (i := 2) (v := ?_) rfl (by kernel_rfl) (by kernel_rfl) (by kernel_rfl) (fun _ _ _ h => h) (Or.inl ⟨by kernel_rfl, ?_⟩) (by assumption) ?_
  rotate_left
  · (intro w hSw; (try dsimp only at hSw); go_simp; (first | done | with_reducible rfl))
  (try simp only [Act.put, List.setIfInBounds_toArray, List.set_cons_zero, List.set_cons_succ])
  refine wpAnyH_take (i := 3) (v := ?_) rfl (by kernel_rfl) (by kernel_rfl) (by kernel_rfl) (fun _ _ _ h => h) (Or.inl ⟨by kernel_rfl, ?_⟩) (by assumption) ?_
  rotate_left
  · (intro w hSw; (try dsimp only at hSw); go_simp; (first | done | with_reducible rfl))
  (try simp only [Act.put, List.setIfInBounds_toArray, List.set_cons_zero, List.set_cons_succ])
  refine wpAnyH_ready (rs := [6]) (by kernel_rfl) (by simp) ?_
  refine AllReadyH.cons rfl (fun K hK => ?_) AllReadyH.nil
  go_simp
  refine (writeTop_any (HPD.out _) HFS.out (R.extract 0 1) (by simp; omega) (by omega)).mono ?_
  rintro e w4 ⟨rfl, col4, cs4, h4, st4⟩
  have st5 := st4.undrew
  have H4 := Lib.hid h4
  have ST4 := Lib.hid st5
  have z0 := h4.hp.cell 0
  clear h4 st4 st5
  go_wp2_with fail
  refine hK.out _ _ ?_ (fun hHeld2 => ?_)
  · (try dsimp only)
    first | exact C0.out | exact z0
  clear hK K hHeld1
  (try simp only [Act.put, List.setIfInBounds_toArray, List.set_cons_zero, List.set_cons_succ])
  refine wpAnyH_done (by kernel_rfl) ?_ _
  go_wp2
  go_ret
  refine ⟨rfl, col4, ob, cap, fv, cs4, gn, ?_, ST4.out⟩
  have e : (R.extract 0 1).data.toList = [s.data.toList.getD i 0] := RX.out
  have H5 := H4.out
  rw [e] at H5
  rw [writeLen, ← HL.out]
  exact H5.on (by omega)
/-- what stands at a place, and where it goes on -/
theorem step_any (h : PSx Tryz.prog w B col pb ob cap len s st i fv gb cs gn) (hl : len = st.fs.length) (hI : Inv st i) (hi : i < s.size) (hs : s.size ≤ 100000) (m : Int) (hm : w.cell? ⟨0, 0, none⟩ = some (.int .i64 m)) (hB : 0 < B) :
    Calls Tryz.prog 37 #[.pointer (some ⟨pb, 0, none⟩), .int .i64 (i : Int)] w fun e w' => e = .returned (.int .i64 (((st.step s.data.toList i).2 : Nat) : Int)) ∧ StepPost B pb s gb w col (st.step s.data.toList i).1 (st.step s.data.toList i).2 w' := by
  have hlen : s.data.toList.length = s.size := by simp
  have hil : i < s.data.toList.length := by omega
  have head : ∀ {a b : UInt8}, [a, b].isPrefixOf (s.data.toList.drop i) = true → s.data.toList.getD i 0 = a := fun {a b} hp => by
    rw [drop_cons hil, List.isPrefixOf] at hp
    simp only [Bool.and_eq_true, beq_iff_eq] at hp
    exact hp.1.symm
  unfold Pst.step
  rw [hlen]
  split
  · rename_i hc
    exact step_esc h hl hI hi hs m hm hB hc.1 hc.2.1 hc.2.2
  rename_i k92
  split
  · rename_i hc; exact step_code h hl hI hi hs m hm hB hc
  rename_i k96
  split
  · rename_i hp; exact step_ref h hl hI hi hs m hm hB (head hp) hp
  rename_i k60
  split
  · rename_i hp; exact step_term h hl hI hi hs m hm hB (head hp) hp
  rename_i k40
  split
  · rename_i hp
    cases hr : st.room with
    | true => exact step_note h hl hI hi hs m hm hB (head hp) hp hr
    | false => exact step_full h hl hI hi hs m hm hB (head hp) hp hr
  rename_i k94
  split
  · rename_i hc; exact step_shut h hl hI hi hs m hm hB hc.1 hc.2
  rename_i k93
  split
  · rename_i hc; exact step_starW h hl hI hi hs m hm hB hc
  rename_i k42
  split
  · rename_i hc; exact step_barW h hl hI hi hs m hm hB hc
  rename_i k95
  simp only [Bool.not_eq_true] at k60 k40 k94
  by_cases e92 : s.data.toList.getD i 0 = 92
  · by_cases en : i + 1 < s.size
    · exact step_back h hl hI hi hs m hm hB e92 en (by
        cases he : escB (s.data.toList.getD (i + 1) 0) with
        | false => rfl
        | true => exact absurd ⟨e92, en, he⟩ k92)
    · exact step_short h hl hI hi hs m hm hB e92 en
  · by_cases e93 : s.data.toList.getD i 0 = 93
    · exact step_last h hl hI hi hs m hm hB e93 (by
        by_cases e0 : 0 < lastK 6 st.fs
        · exact absurd ⟨e93, e0⟩ k93
        · omega)
    · exact step_text h hl hI hi hs m hm hB e92 k96 e93 k42 k95 k60 k40 k94
end
end Go.Proofs.YtgiiglcgfbnaoaaGreatDoor
namespace Go.Bd
def keys (st : Pst) : List Nat := st.faults.map (·.1) ++ st.fs.dropLast.map (·.at')
structure Dst (st : Pst) (i : Nat) : Prop where
  nd : (keys st).Nodup
  lt : ∀ k ∈ keys st, k < i
theorem keys_top (st : Pst) (g : Rw → Rw) : keys (st.top g) = keys st := by
  obtain ⟨fs, fa⟩ := st
  cases fs with
  | nil => rfl
  | cons f r => cases r <;> rfl
theorem Dst.first : Dst Pst.first 0 := ⟨by simp [keys, Pst.first], by simp [keys, Pst.first]⟩
theorem Dst.top {st : Pst} {i j : Nat} (h : Dst st i) (hj : i ≤ j) (g : Rw → Rw) : Dst (st.top g) j :=
  ⟨by rw [keys_top]; exact h.nd, fun k hk => by rw [keys_top] at hk; have := h.lt k hk; omega⟩
theorem Dst.write {st : Pst} {i j : Nat} (h : Dst st i) (hj : i ≤ j) (s : Bs) : Dst (st.write s) j := h.top hj _
theorem Dst.of_perm {a b : Pst} {i j : Nat} (h : Dst a i) (hj : i ≤ j) (hp : List.Perm (keys a) (keys b)) : Dst b j :=
  ⟨hp.nodup_iff.1 h.nd, fun k hk => by have := h.lt k (hp.mem_iff.2 hk); omega⟩
theorem Dst.of_new {a b : Pst} {i j : Nat} (h : Dst a i) (hj : i < j) (hp : List.Perm (keys b) (i :: keys a)) : Dst b j :=
  ⟨hp.nodup_iff.2 (List.nodup_cons.2 ⟨fun hm => by have := h.lt i hm; omega, h.nd⟩), fun k hk => by
    rcases List.mem_cons.1 (hp.mem_iff.1 hk) with rfl | hk
    · exact hj
    · have := h.lt k hk; omega⟩
theorem keys_tell (st : Pst) (a f : Nat) : List.Perm (keys (st.tell a f)) (a :: keys st) := by
  simp only [keys, Pst.tell, List.map_append, List.map_cons, List.map_nil, List.append_assoc, List.cons_append, List.nil_append]
  exact List.perm_middle
theorem Dst.tell {st : Pst} {i j : Nat} (h : Dst st i) (hj : i < j) (f : Nat) : Dst (st.tell i f) j := h.of_new hj (keys_tell st i f)
theorem keys_drop1 {st : Pst} (h2 : 2 ≤ st.fs.length) : List.Perm (keys st) (keys st.drop1) := by
  obtain ⟨fs, fa⟩ := st
  match fs, h2 with
  | f :: g :: r, _ =>
    have e : ((onTop (spill f) (g :: r)).dropLast).map (·.at') = ((g :: r).dropLast).map (·.at') := by cases r <;> rfl
    simp only [keys, Pst.drop1, e, List.map_append, List.map_cons, List.map_nil, List.append_assoc, List.cons_append, List.nil_append, List.dropLast_cons_cons]
    exact List.Perm.refl _
theorem keys_dropN : ∀ (n : Nat) {st : Pst}, n + 1 ≤ st.fs.length → List.Perm (keys st) (keys (st.dropN n))
  | 0, _, _ => List.Perm.refl _
  | n + 1, st, h => by
    have h1 := drop1_length (st := st) (by omega)
    exact (keys_drop1 (by omega)).trans (keys_dropN n (by omega))
theorem keys_drop {st : Pst} (n : Nat) (h : 1 ≤ st.fs.length) : List.Perm (keys st) (keys (st.drop n)) := keys_dropN _ (by omega)
theorem keys_shut (st : Pst) (h2 : 2 ≤ st.fs.length) : ∃ k, List.Perm (keys st) (k :: keys st.shut) := by
  obtain ⟨fs, fa⟩ := st
  match fs, h2 with
  | f :: g :: r, _ =>
    have e : ∀ q, ((onTop q (g :: r)).dropLast).map (·.at') = ((g :: r).dropLast).map (·.at') := fun q => by cases r <;> rfl
    refine ⟨f.at', ?_⟩
    simp only [keys, Pst.shut, e, List.map_cons, List.dropLast_cons_cons]
    exact List.perm_middle
theorem Dst.fin {st : Pst} {i j n : Nat} (h : Dst st i) (hI : Inv st i) (hj : i ≤ j) (h0 : 0 < n) (hn : n < st.fs.length) : Dst (st.fin n) j := by
  have h1 := h.of_perm (Nat.le_refl _) (keys_drop n (by omega))
  obtain ⟨k, hk⟩ := keys_shut (st.drop n) (by have := (hI.drop hn).2; omega)
  unfold Pst.fin
  have hnd := hk.nodup_iff.1 h1.nd
  refine ⟨(List.nodup_cons.1 hnd).2, fun q hq => ?_⟩
  have := h1.lt q (hk.mem_iff.2 (List.mem_cons_of_mem _ hq))
  omega
theorem Dst.begin {st : Pst} {i j : Nat} (h : Dst st i) (h1 : 1 ≤ st.fs.length) (hj : i < j) (k : Nat) (sign : Bs) : Dst (st.begin k i sign) j := by
  refine h.of_new hj ?_
  obtain ⟨fs, fa⟩ := st
  match fs, h1 with
  | f :: r, _ =>
    simp only [keys, Pst.begin, List.dropLast_cons_cons, List.map_cons]
    exact List.perm_middle
theorem Dst.between {st : Pst} {s a b : Bs} {i : Nat} {asf : Bs → Sp ⊕ Nat} (h : Dst st i) (ha : 1 ≤ a.length) (hi : i + a.length ≤ s.length) : Dst (st.between s i a b asf).1 (st.between s i a b asf).2 := by
  unfold Pst.between
  split
  · exact (h.write (Nat.le_refl i) a).tell (by simp only; omega) _
  · rename_i n hn
    obtain ⟨h1, h2⟩ := nextAt_some hi hn
    split
    · exact (h.write (Nat.le_refl i) _).tell (by simp only; omega) _
    · exact h.top (by simp only; omega) _
theorem Dst.mark {st : Pst} {s : Bs} {i k : Nat} (h : Dst st i) (hI : Inv st i) : Dst (st.mark s i k) (i + 1) := by
  unfold Pst.mark
  split
  · rename_i hc
    rcases lastK_lt k st.fs with h0 | h0
    · omega
    · exact h.fin hI (by omega) hc.1 h0
  · split
    · exact h.write (by omega) _
    · split
      · exact (h.write (Nat.le_refl i) _).tell (by omega) _
      · exact h.begin hI.2.2.1 (by omega) _ _
theorem Dst.step {st : Pst} {s : Bs} {i : Nat} (h : Dst st i) (hI : Inv st i) (hi : i < s.length) : Dst (st.step s i).1 (st.step s i).2 := by
  unfold Pst.step
  split
  · exact h.write (by simp only; omega) _
  split
  · exact h.between (by simp) (by simp; omega)
  split
  · rename_i hp
    exact h.between (by simp) (prefix_two hp)
  split
  · rename_i hp
    exact h.between (by simp) (prefix_two hp)
  split
  · simp only
    split
    · exact h.begin hI.2.2.1 (by omega) _ _
    · exact (h.write (Nat.le_refl i) _).tell (by omega) _
  split
  · rename_i hc
    rcases lastK_lt 6 st.fs with h0 | h0
    · omega
    · exact h.fin hI (by simp only; omega) hc.2 h0
  split
  · exact h.mark hI
  split
  · exact h.mark hI
  · exact h.write (by simp only; omega) _
theorem Dst.run {s : Bs} : ∀ (n i : Nat) (st : Pst), Inv st i → Dst st i → ∃ j, Dst (runP s n i st) j
  | 0, i, st, _, h => ⟨i, h⟩
  | n + 1, i, st, hI, h => by
    rw [runP]
    split
    · rename_i hlt
      obtain ⟨h3, h4, h5⟩ := hI.step hlt
      exact Dst.run n _ _ h3 (h.step hI hlt)
    · exact ⟨i, h⟩
theorem faults_nodup (s : Bs) : ((faultsAt s).map (·.1)).Nodup := by
  obtain ⟨j, hj⟩ := Dst.run (s := s) s.length 0 Pst.first Inv.first Dst.first
  have hI := Inv.run (s := s) s.length 0 Pst.first Inv.first (Nat.zero_le _) (by omega)
  have h := hj.of_perm (Nat.le_refl _) (keys_drop 0 hI.2.2.1)
  exact (List.nodup_append.1 h.nd).1
/-- in order, by their places -/
def insF (p : Nat × Nat) : List (Nat × Nat) → List (Nat × Nat)
  | [] => [p]
  | q :: l => if p.1 ≤ q.1 then p :: q :: l else q :: insF p l
def sortF : List (Nat × Nat) → List (Nat × Nat)
  | [] => []
  | p :: l => insF p (sortF l)
theorem insF_perm (p : Nat × Nat) : ∀ l, List.Perm (insF p l) (p :: l)
  | [] => List.Perm.refl _
  | q :: l => by
    unfold insF
    split
    · exact List.Perm.refl _
    · exact ((insF_perm p l).cons q).trans (List.Perm.swap _ _ _)
theorem sortF_perm : ∀ l, List.Perm (sortF l) l
  | [] => List.Perm.refl _
  | p :: l => (insF_perm p _).trans ((sortF_perm l).cons p)
theorem insF_sorted (p : Nat × Nat) : ∀ l : List (Nat × Nat), l.Pairwise (fun a b => a.1 ≤ b.1) → (insF p l).Pairwise (fun a b => a.1 ≤ b.1)
  | [], _ => by simp [insF]
  | q :: l, h => by
    unfold insF
    obtain ⟨h1, h2⟩ := List.pairwise_cons.1 h
    split
    · rename_i hc
      refine List.pairwise_cons.2 ⟨fun x hx => ?_, h⟩
      rcases List.mem_cons.1 hx with rfl | hx
      · exact hc
      · have := h1 x hx; omega
    · rename_i hc
      refine List.pairwise_cons.2 ⟨fun x hx => ?_, insF_sorted p l h2⟩
      rcases List.mem_cons.1 ((insF_perm p l).mem_iff.1 hx) with rfl | hx
      · omega
      · exact h1 x hx
theorem sortF_sorted : ∀ l : List (Nat × Nat), (sortF l).Pairwise (fun a b => a.1 ≤ b.1)
  | [] => List.Pairwise.nil
  | p :: l => insF_sorted p _ (sortF_sorted l)
theorem inj_keys : ∀ {b : List (Nat × Nat)}, (b.map (·.1)).Nodup → ∀ {x y}, x ∈ b → y ∈ b → x.1 = y.1 → x = y
  | [], _, _, _, hx, _, _ => by cases hx
  | p :: b, hn, x, y, hx, hy, e => by
    obtain ⟨h1, h2⟩ := List.nodup_cons.1 hn
    rcases List.mem_cons.1 hx with rfl | hx' <;> rcases List.mem_cons.1 hy with rfl | hy'
    · rfl
    · exact (h1 (List.mem_map.2 ⟨y, hy', e.symm⟩)).elim
    · exact (h1 (List.mem_map.2 ⟨x, hx', e⟩)).elim
    · exact inj_keys h2 hx' hy' e
/-- what is in order, and has no place twice, is the order -/
theorem sort_unique {a b : List (Nat × Nat)} (hp : List.Perm a b) (hn : (b.map (·.1)).Nodup) (ha : a.Pairwise (fun x y => x.1 ≤ y.1)) (hb : b.Pairwise (fun x y => x.1 ≤ y.1)) : a = b := by
  refine hp.eq_of_pairwise (le := fun x y : Nat × Nat => x.1 ≤ y.1) (fun x y hx hy h1 h2 => ?_) ha hb
  have e : x.1 = y.1 := by omega
  have hx' : x ∈ b := hp.mem_iff.1 hx
  exact inj_keys hn hx' hy e
/-- a text's faults -/
def faultsOf (s : Bs) : List Nat := (sortF (faultsAt s)).map (·.2)
end Go.Bd
namespace Go.Bd
open Go.RowKit Go.Sort
def encT (p : Nat × Nat) : List Value := [.int .i64 (p.1 : Int), .int .i64 (p.2 : Int)]
def cfT (x y : Nat × Nat) : Int := Lib.compareInt (x.1 : Int) (y.1 : Int)
theorem ltT (x y : Nat × Nat) : Go.Proofs.ltOf cfT x y = decide (x.1 < y.1) := by
  unfold Go.Proofs.ltOf cfT Lib.compareInt
  by_cases h1 : x.1 < y.1
  · simp [h1]
  · by_cases h2 : y.1 < x.1 <;> simp [h1, h2]
theorem swoT : SWO (Go.Proofs.ltOf cfT) where
  irrefl x := by rw [ltT]; simp
  trans x y z h1 h2 := by rw [ltT] at *; simp at *; omega
  ntrans x y z h1 h2 := by rw [ltT] at *; simp at *; omega
theorem toldCells_length (l : List (Nat × Nat)) : (toldCells l).length = l.length * 2 := by
  induction l with
  | nil => rfl
  | cons p l ih => rw [show toldCells (p :: l) = [.int .i64 (p.1 : Int), .int .i64 (p.2 : Int)] ++ toldCells l from rfl, List.length_append, ih]; simp; omega
theorem toldCells_get : ∀ (l : List (Nat × Nat)) (j : Nat), j < l.length * 2 → (toldCells l)[j]? = (encT l[j / 2]!)[j % 2]?
  | [], j, h => by simp at h
  | p :: l, j, h => by
    have e : toldCells (p :: l) = [.int .i64 (p.1 : Int), .int .i64 (p.2 : Int)] ++ toldCells l := rfl
    rw [e]
    by_cases h2 : j < 2
    · rw [List.getElem?_append_left (by simpa using h2)]
      obtain rfl | rfl : j = 0 ∨ j = 1 := by omega
      · rfl
      · rfl
    · rw [List.getElem?_append_right (by simp; omega)]
      have e1 : j / 2 = (j - 2) / 2 + 1 := by omega
      have e2 : j % 2 = (j - 2) % 2 := by omega
      rw [show ([.int .i64 (p.1 : Int), .int .i64 (p.2 : Int)] : List Value).length = 2 from rfl, toldCells_get l (j - 2) (by simp at h; omega), e1, e2]
      rfl
theorem get_some {l : List Value} {j : Nat} {v : Value} (h : l[j]? = some v) : l[j]! = v := by
  rw [List.getElem!_eq_getElem?_getD, h]; rfl
theorem encT_get (p : Nat × Nat) (j : Nat) (h : j < 2) : (encT p)[j]? = some (encT p)[j]! := by
  obtain rfl | rfl : j = 0 ∨ j = 1 := by omega
  · rfl
  · rfl
section
variable {w w' : World} {B g n cap : Nat} {cur : Array Value} {l : List (Nat × Nat)}
theorem told_holdsK (hh : w.heap[g]? = some (.cells cur tT (0, 0))) (ht : cur.toList.take (l.length * 2) = toldCells l) (hs : l.length * 2 ≤ cur.size) : HoldsK encT 2 w g 0 l.toArray := by
  intro j hj
  rw [size_flatK] at hj
  have hj2 : j < l.length * 2 := by simpa using hj
  rw [get_flatK _ _ _ _ hj, Nat.zero_add]
  have h1 : cur[j]? = some (encT l.toArray[j / 2]!)[j % 2]! := by
    rw [← encT_get _ _ (by omega), show l.toArray[j / 2]! = l[j / 2]! by simp, ← toldCells_get l j hj2, ← ht, List.getElem?_take_of_lt hj2, Array.getElem?_toList]
  exact ⟨(Holds.cell hh j).trans h1, Holds.free hh j⟩
theorem sortWorld_told (hh : w.heap[g]? = some (.cells cur tT (0, 0))) (hs : l.length * 2 ≤ cur.size) (m : Nat) (d' : List (Nat × Nat)) (hd : d'.length = l.length) (os : Array Obj) :
    Chg w (Go.Proofs.sortWorldK encT 2 w g 0 m d'.toArray os) (· = g) ∧ ∃ cur', (Go.Proofs.sortWorldK encT 2 w g 0 m d'.toArray os).heap[g]? = some (.cells cur' tT (0, 0)) ∧ cur'.size = cur.size ∧ cur'.toList.take (l.length * 2) = toldCells d' := by
  have hlt : g < w.heap.size := (Array.getElem?_eq_some_iff.1 hh).1
  have hsz : (w.heap.modify g (onCells (putCells id 0 (flatK encT 2 d'.toArray)))).size = w.heap.size := Array.size_modify
  refine ⟨⟨rfl, rfl, rfl, ?_, fun k hk hg => ?_⟩, putCells id 0 (flatK encT 2 d'.toArray) cur, ?_, by simp [putCells], ?_⟩
  · show w.heap.size ≤ (w.heap.modify g _ ++ os).size
    rw [Array.size_append, Array.size_modify]; omega
  · show (w.heap.modify g _ ++ os)[k]? = _
    rw [Array.getElem?_append_left (by rw [Array.size_modify]; exact hk), Array.getElem?_modify, if_neg (fun e => hg e.symm)]
  · show (w.heap.modify g _ ++ os)[g]? = _
    rw [Array.getElem?_append_left (by rw [Array.size_modify]; exact hlt), Array.getElem?_modify, if_pos rfl, hh]
    rfl
  · apply List.ext_getElem?
    intro j
    by_cases hj : j < l.length * 2
    · rw [List.getElem?_take_of_lt hj, Array.getElem?_toList, toldCells_get d' j (by omega)]
      have hjc : j < cur.size := by omega
      have hjf : j < (flatK encT 2 d'.toArray).size := by rw [size_flatK]; simp; omega
      simp only [putCells, Array.getElem?_mapIdx, Array.getElem?_eq_getElem hjc, Option.map_some, Nat.zero_le, Nat.zero_add, true_and, if_pos hjf, Nat.sub_zero, id]
      rw [get_flatK _ _ _ _ (by simp; omega), encT_get _ _ (by omega)]
      simp
    · rw [List.getElem?_take_eq_none (by omega), List.getElem?_eq_none (by rw [toldCells_length]; omega)]
end
theorem perm_told {l d : List (Nat × Nat)} (hn : (l.map (·.1)).Nodup) (hp : PermIn 0 l.toArray.size l.toArray d.toArray) (hs : SortedIn (Go.Proofs.ltOf cfT) 0 l.toArray.size d.toArray) : d = sortF l := by
  obtain ⟨h1, _, h3⟩ := hp
  have hlen : d.length = l.length := by simpa using h1
  have e1 : (d.toArray.extract 0 l.toArray.size).toList = d := by simp [← hlen]
  have e2 : (l.toArray.extract 0 l.toArray.size).toList = l := by simp
  rw [e1, e2] at h3
  refine sort_unique (h3.trans (sortF_perm l).symm) ?_ ?_ (sortF_sorted l)
  · exact ((sortF_perm l).map (·.1)).nodup_iff.2 hn
  · rw [List.pairwise_iff_getElem]
    intro i j hi hj hij
    have := hs i j (Nat.zero_le _) hij (by simp; omega)
    rw [ltT, decide_eq_false_iff_not] at this
    simp only [List.getElem!_toArray, getElem!_pos d j hj, getElem!_pos d i hi] at this
    omega
end Go.Bd
namespace Go.Proofs.YtgiiglcgfbnaoaaGreatDoor
open Go.RowKit Go.Bd Go.Sort
theorem cmpT (x y : Nat × Nat) (W : World) : Calls Tryz.prog 42 #[.agg #[.int .i64 (x.1 : Int), .int .i64 (x.2 : Int)], .agg #[.int .i64 (y.1 : Int), .int .i64 (y.2 : Int)]] W fun e w' => e = .returned (.int .i64 (cfT x y)) ∧ ∃ q os', w' = grow (W.drewN q) os' := by
  have hcon := fun W' => Tryz.cmp_Compare_int (x.1 : Int) (y.1 : Int) W'
  unfold cfT
  generalize Lib.compareInt (x.1 : Int) (y.1 : Int) = r at hcon ⊢
  go_enter Tryz.func42, Tryz.ntmps42
  go_wp2_with (go_at_call 43; refine (hcon _).mono ?_; rintro e w' ⟨rfl, rfl⟩)
  go_ret
  exact ⟨rfl, 0, _, by rw [alloc_eq_grow, alloc_eq_grow, grow_grow]; rfl⟩
set_option maxRecDepth 100000 in
theorem insert_none (fv : Value) (w : World) : Calls Tryz.prog 98 #[.slice none 0 0, .int .i64 0, .int .i64 0, fv] w fun e w' => e = .returned (.tuple #[]) ∧ w = w' := by
  go_enter Tryz.func98, Tryz.ntmps98
  go_wp2
  go_loop [8] (fun i => i = .int .i64 1) (fun _ => 0)
  case atStart => rfl
  case round =>
    obtain rfl := hrel
    go_wp2
    go_end0
    exact ⟨rfl, rfl⟩
set_option maxRecDepth 100000 in
theorem pdq_none (fv : Value) (x : Int) (w : World) : Calls Tryz.prog 80 #[.slice none 0 0, .int .i64 0, .int .i64 0, .int .i64 x, fv] w fun e w' => e = .returned (.tuple #[]) ∧ w = w' := by
  go_enter Tryz.func80, Tryz.ntmps80
  go_wp2
  go_loop [1, 2] (fun a b => a = .int .i64 0 ∧ b = .int .i64 0) (fun _ _ => 0)
  case atStart => exact ⟨rfl, rfl⟩
  case round =>
    obtain ⟨rfl, rfl⟩ := hrel
    go_wp2_with (go_at_call 98; refine (insert_none _ _).mono ?_; rintro e w' ⟨rfl, rfl⟩)
    (try simp only [Exit.inBlock, Exit.then])
    refine bodyPost_ret (results_none rfl _ _ _) rfl ?_
    exact ⟨rfl, rfl⟩
theorem sort_none (fv : Value) (w : World) : Calls Tryz.prog 41 #[.slice none 0 0, fv] w fun e w' => e = .returned (.tuple #[]) ∧ w = w' := by
  have cl := fun w => Tryz.bits_Len 0 w (by omega) (by omega)
  go_enter Tryz.func41, Tryz.ntmps41
  go_wp2_with (first
    | (go_at_call 81; refine (cl _).mono ?_; rintro e w' ⟨rfl, rfl⟩)
    | (go_at_call 80; refine (pdq_none _ _ _).mono ?_; rintro e w' ⟨rfl, rfl⟩)
    | fail)
  go_end0
  exact ⟨rfl, rfl⟩
theorem sort_any {w : World} {B : Nat} {fv : Value} {l : List (Nat × Nat)} (h : w.ownsRow B tT 2 fv l.length (toldCells l)) (hn : (l.map (·.1)).Nodup) (hlen : l.length ≤ 10000000) :
    Calls Tryz.prog 41 #[fv, .func (.func 42) #[] #[]] w fun e w' => e = .returned (.tuple #[]) ∧ Chg w w' (fun b => fv.ownBlock = some b) ∧ w'.ownsRow B tT 2 fv l.length (toldCells (sortF l)) := by
  rcases h.2 with ⟨rfl, h0⟩ | ⟨g, cap, cur, rfl, hg, hh, hc, hm, hs, ht⟩
  · obtain rfl : l = [] := List.eq_nil_of_length_eq_zero h0
    refine (sort_none _ w).mono ?_
    rintro e w' ⟨rfl, rfl⟩
    exact ⟨rfl, Chg.refl _ _, h⟩
  · have eg : ∀ args w, (callFunc 42 args).run Tryz.prog w = .ok (.enter 42 args) w := fun args w => by kernel_rfl
    have hs2 : l.length * 2 ≤ cur.size := by rw [hs]; exact Nat.mul_le_mul_right 2 hc
    have hcon := AnyQ.slices_SortFunc Tryz.sortTold 2 Tryz.isAgg73 Tryz.sizeOf73 encT (fun _ => rfl) (fun x v hv => by simp [encT] at hv; rcases hv with rfl | rfl <;> rfl) cfT swoT 42 #[] g 0 cap l.toArray w eg
      (fun _ _ _ _ x y => cmpT x y _) (told_holdsK hh ht hs2) (Array.getElem?_eq_some_iff.1 hh).1 (by simp; omega)
    rw [show l.toArray.size = l.length by simp] at hcon
    refine hcon.mono ?_
    rintro e w' ⟨rfl, d', n, os, hp, hsd, rfl⟩
    have hd : d'.toList = sortF l := perm_told hn (by simpa using hp) (by simpa using hsd)
    obtain ⟨h1, cur', h2, h3, h4⟩ := sortWorld_told hh hs2 n d'.toList (by rw [hd]; exact (sortF_perm l).length_eq) os
    rw [Array.toArray_toList] at h1 h2
    rw [hd] at h4
    refine ⟨rfl, h1.mono (fun k _ e => by subst e; rfl), ?_, .inr ⟨g, cap, cur', rfl, hg, h2, hc, hm, by rw [h3, hs], h4⟩⟩
    rw [toldCells_length, (sortF_perm l).length_eq]
end Go.Proofs.YtgiiglcgfbnaoaaGreatDoor
namespace Go.Bd
def R (s : Bs) (i : Nat) (st : Pst) : Pst := runP s s.length i st
theorem R_step {s : Bs} {i : Nat} {st : Pst} (hI : Inv st i) (hi : i < s.length) : R s i st = R s (st.step s i).2 (st.step s i).1 := run_step hI hi (by omega)
theorem R_end {s : Bs} {i : Nat} {st : Pst} (h : s.length ≤ i) : R s i st = st := run_end st h
theorem R_plain {s pre w suf : Bs} {i : Nat} {st : Pst} (hI : Inv st i) (hs : s = pre ++ (w ++ suf)) (hi : i = pre.length) (hw : w.all plainC = true) : R s i st = R s (i + w.length) (st.write w) := by
  subst hs; subst hi
  unfold R
  rw [run_plain w.length _ pre.length st (by simp; try omega) (fun j h1 h2 => by
    rw [getD_app_right h1, getD_app_left (by omega)]
    exact plain_getD hw (by omega)) (by simp; try omega)]
  rw [List.drop_left' rfl, List.take_left' rfl]
  exact run_fuel _ _ _ _ (hI.write w) (by simp; try omega) (by simp; try omega)
theorem at_mid (pre suf : Bs) (c : UInt8) : (pre ++ c :: suf).getD pre.length 0 = c := by rw [getD_app_right (Nat.le_refl _)]; simp
theorem at_next (pre suf : Bs) (c d : UInt8) : (pre ++ c :: d :: suf).getD (pre.length + 1) 0 = d := by rw [getD_app_right (by omega)]; simp
theorem step_star {s : Bs} {i : Nat} (st : Pst) (hi : i < s.length) (h : s.getD i 0 = 42) : st.step s i = (st.mark s i 1, i + 1) := by
  unfold Pst.step
  rw [if_neg (by rw [h]; simp), if_neg (by rw [h]; decide), if_neg (by rw [pre_ne hi (by rw [h]; decide)]; simp), if_neg (by rw [pre_ne hi (by rw [h]; decide)]; simp), if_neg (by rw [pre_ne hi (by rw [h]; decide)]; simp), if_neg (by rw [h]; simp), if_pos h]
theorem step_bar {s : Bs} {i : Nat} (st : Pst) (hi : i < s.length) (h : s.getD i 0 = 95) : st.step s i = (st.mark s i 2, i + 1) := by
  unfold Pst.step
  rw [if_neg (by rw [h]; simp), if_neg (by rw [h]; decide), if_neg (by rw [pre_ne hi (by rw [h]; decide)]; simp), if_neg (by rw [pre_ne hi (by rw [h]; decide)]; simp), if_neg (by rw [pre_ne hi (by rw [h]; decide)]; simp), if_neg (by rw [h]; simp), if_neg (by rw [h]; decide), if_pos h]
theorem step_code {s : Bs} {i : Nat} (st : Pst) (h : s.getD i 0 = 96) : st.step s i = st.between s i [96] [96] codeS := by
  unfold Pst.step
  rw [if_neg (by rw [h]; simp), if_pos h]
theorem step_note {s : Bs} {i : Nat} (st : Pst) (hi : i < s.length) (h : s.getD i 0 = 94) (hp : [94, 91].isPrefixOf (s.drop i) = true) (hr : st.room = true) : st.step s i = (st.begin 6 i [94, 91], i + 2) := by
  unfold Pst.step
  rw [if_neg (by rw [h]; simp), if_neg (by rw [h]; decide), if_neg (by rw [pre_ne hi (by rw [h]; decide)]; simp), if_neg (by rw [pre_ne hi (by rw [h]; decide)]; simp), if_pos hp, if_pos hr]
theorem step_shut {s : Bs} {i : Nat} (st : Pst) (hi : i < s.length) (h : s.getD i 0 = 93) (hl : 0 < lastK 6 st.fs) : st.step s i = (st.fin (lastK 6 st.fs), i + 1) := by
  unfold Pst.step
  rw [if_neg (by rw [h]; simp), if_neg (by rw [h]; decide), if_neg (by rw [pre_ne hi (by rw [h]; decide)]; simp), if_neg (by rw [pre_ne hi (by rw [h]; decide)]; simp), if_neg (by rw [pre_ne hi (by rw [h]; decide)]; simp), if_pos ⟨h, hl⟩]
theorem mark_open {st : Pst} {s : Bs} {i k : Nat} {c : UInt8} (hc : s.getD i 0 = c) (hl : lastK k st.fs = 0) (hp : ¬ (0 < i ∧ solid (s.getD (i - 1) 0) = true)) (hn : i + 1 < s.length) (hb : blank (s.getD (i + 1) 0) = false) (hr : st.room = true) : st.mark s i k = st.begin k i [c] := by
  unfold Pst.mark
  rw [if_neg (by rw [hl]; simp), if_neg (by rintro (h | h | h); exact hp h; omega; rw [hb] at h; cases h), if_neg (by rw [hr]; simp), hc]
theorem mark_text {st : Pst} {s : Bs} {i k : Nat} {c : UInt8} (hc : s.getD i 0 = c) (hl : lastK k st.fs = 0) (hp : (0 < i ∧ solid (s.getD (i - 1) 0) = true) ∨ s.length ≤ i + 1 ∨ blank (s.getD (i + 1) 0) = true) : st.mark s i k = st.write [c] := by
  unfold Pst.mark
  rw [if_neg (by rw [hl]; simp), if_pos hp, hc]
theorem mark_shut {st : Pst} {s : Bs} {i k n : Nat} (hl : lastK k st.fs = n) (h0 : 0 < n) (ha : atOf st.fs n + 1 ≠ i) (hi : 0 < i) (hb : blank (s.getD (i - 1) 0) = false) (hs : ¬ (i + 1 < s.length ∧ solid (s.getD (i + 1) 0) = true)) : st.mark s i k = st.fin n := by
  unfold Pst.mark
  rw [hl, if_pos ⟨h0, ha, hi, hb, hs⟩]
def small (w : Bs) : Bool := w.all fun c => 97 ≤ c && c ≤ 122
theorem small_get {w : Bs} (h : small w = true) {j : Nat} (hj : j < w.length) : plainC (w.getD j 0) = true ∧ solid (w.getD j 0) = true ∧ blank (w.getD j 0) = false := by
  have h1 : (97 ≤ w.getD j 0 && w.getD j 0 ≤ 122) = true := by
    rw [List.getD_eq_getElem?_getD, List.getElem?_eq_getElem hj]
    exact List.all_eq_true.1 h _ (List.getElem_mem hj)
  generalize w.getD j 0 = c at h1
  have ne : ∀ k : UInt8, (97 ≤ k && k ≤ 122) = false → (c == k) = false := fun k hk => by
    rw [beq_eq_false_iff_ne]
    rintro rfl
    rw [h1] at hk; cases hk
  refine ⟨?_, ?_, ?_⟩
  · simp only [plainC, ne 42 (by decide), ne 95 (by decide), ne 60 (by decide), ne 40 (by decide), ne 94 (by decide), ne 93 (by decide), ne 92 (by decide), ne 96 (by decide)]; rfl
  · unfold solid; rw [h1]; simp
  · have n1 := ne 32 (by decide)
    have n2 := ne 9 (by decide)
    rw [beq_eq_false_iff_ne] at n1 n2
    cases hb : blank c with
    | false => rfl
    | true =>
      rcases (blank_iff c).1 hb with h | h
      · exact absurd (UInt8.toNat_inj.1 (by show c.toNat = 32; omega)) n1
      · exact absurd (UInt8.toNat_inj.1 (by show c.toNat = 9; omega)) n2
theorem small_plain {w : Bs} (h : small w = true) : w.all plainC = true := by
  rw [List.all_eq_true]
  intro c hc
  obtain ⟨j, hj, rfl⟩ := List.mem_iff_getElem.1 hc
  have := (small_get h hj).1
  rwa [List.getD_eq_getElem?_getD, List.getElem?_eq_getElem hj] at this
theorem begin_inv {i k j : Nat} {sign : Bs} (h : Inv Pst.first i) (hs : 1 ≤ sign.length) : Inv (Pst.first.begin k j sign) (i + sign.length) := h.begin rfl k j sign hs
theorem fin_top {f : Fr} {r : List Fr} {fa : List (Nat × Nat)} (_hr : r ≠ []) : Pst.fin ⟨f :: r, fa⟩ r.length = ⟨onTop (·.add ⟨f.kind, [], [], [], f.row.flush.sp⟩) r, fa⟩ := by
  have e : (f :: r).length - 1 - r.length = 0 := by simp
  unfold Pst.fin Pst.drop
  simp only [e]
  rfl
theorem lastK_top {f : Fr} {r : List Fr} (hr : r ≠ []) : lastK f.kind (f :: r) = r.length := by rw [lastK, if_neg hr, if_pos rfl]
theorem lastK_skip {f : Fr} {r : List Fr} {k : Nat} (hk : f.kind ≠ k) : lastK k (f :: r) = lastK k r := by
  rw [lastK]
  split
  · rename_i h; subst h; rfl
  · first | rfl | rw [if_neg hk]
theorem atOf_top (f : Fr) (r : List Fr) : atOf (f :: r) r.length = f.at' := by
  unfold atOf
  rw [List.reverse_cons, List.getElem?_append_right (by simp)]
  simp
theorem write_begin (st : Pst) (k i : Nat) (sign w : Bs) : (st.begin k i sign).write w = ⟨⟨⟨[], w⟩, k, sign, i⟩ :: st.fs, st.faults⟩ := by
  simp [Pst.write, Pst.top, Pst.begin, onTop, Rw.write, Rw.none]
theorem flush_text {w : Bs} (h : w ≠ []) : (Rw.mk [] w).flush = ⟨[txt w], []⟩ := by simp [Rw.flush, h]
/-- a word between two signs of one kind, wherever it stands -/
theorem run_styled {c : UInt8} {k : Nat} {w pre suf s : Bs} {st : Pst} {i : Nat} (hck : (c = 42 ∧ k = 1) ∨ (c = 95 ∧ k = 2)) (hw : small w = true) (hn : w ≠ []) (hs : s = pre ++ c :: (w ++ c :: suf)) (hi : i = pre.length) (hI : Inv st i)
    (hl : lastK k st.fs = 0) (hr : st.room = true) (hp : ¬ (0 < i ∧ solid (s.getD (i - 1) 0) = true)) (hq : suf = [] ∨ solid (suf.headD 0) = false) :
    R s i st = R s (i + (w.length + 2)) (st.top (·.add ⟨k, [], [], [], [txt w]⟩)) := by
  have hwl : 1 ≤ w.length := List.length_pos_iff.2 hn
  have hsl : s.length = i + (w.length + (suf.length + 2)) := by subst hs; subst hi; simp; omega
  have hstep : ∀ (st : Pst) j, j < s.length → s.getD j 0 = c → st.step s j = (st.mark s j k, j + 1) := fun st j hj h => by
    rcases hck with ⟨rfl, rfl⟩ | ⟨rfl, rfl⟩
    · exact step_star st hj h
    · exact step_bar st hj h
  have g0 : s.getD i 0 = c := by subst hs; subst hi; exact at_mid _ _ _
  have gw : ∀ j, j < w.length → s.getD (i + 1 + j) 0 = w.getD j 0 := fun j hj => by
    subst hs; subst hi
    rw [getD_app_right (by omega), show pre.length + 1 + j - pre.length = j + 1 by omega]
    show (w ++ c :: suf).getD j 0 = _
    exact getD_app_left hj
  have gc : s.getD (i + 1 + w.length) 0 = c := by
    subst hs; subst hi
    rw [getD_app_right (by omega), show pre.length + 1 + w.length - pre.length = w.length + 1 by omega]
    exact at_mid w suf c
  have gs : suf ≠ [] → s.getD (i + 1 + w.length + 1) 0 = suf.headD 0 := fun h => by
    subst hs; subst hi
    rw [getD_app_right (by omega), show pre.length + 1 + w.length + 1 - pre.length = (w.length + 1) + 1 by omega]
    show (w ++ c :: suf).getD (w.length + 1) 0 = _
    rw [getD_app_right (by omega), show w.length + 1 - w.length = 0 + 1 by omega]
    show suf.getD 0 0 = _
    cases suf <;> rfl
  have hfs : st.fs ≠ [] := fun h => by have := hI.2.2.1; rw [h] at this; simp at this
  rw [R_step hI (by omega), hstep _ _ (by omega) g0, mark_open g0 hl hp (by omega) (by have := gw 0 hwl; rw [Nat.add_zero] at this; rw [this]; exact (small_get hw hwl).2.2) hr]
  have hI1 : Inv (st.begin k i [c]) (i + 1) := hI.begin hr k i [c] (Nat.le_refl _)
  show R s (i + 1) (st.begin k i [c]) = _
  rw [R_plain (pre := pre ++ [c]) (w := w) (suf := c :: suf) hI1 (by rw [hs]; simp) (by rw [hi]; simp) (small_plain hw)]
  have hI2 := hI1.write w
  rw [R_step hI2 (by omega), hstep _ _ (by omega) gc, write_begin,
    mark_shut (n := st.fs.length) (lastK_top hfs) (by have := hI.2.2.1; omega) (by rw [atOf_top]; simp only; omega) (by omega)
      (by have := gw (w.length - 1) (by omega); rw [show i + 1 + w.length - 1 = i + 1 + (w.length - 1) by omega, this]; exact (small_get hw (by omega)).2.2)
      (fun h => by
        rcases hq with h1 | h1
        · subst h1; simp at hsl; omega
        · by_cases h2 : suf = []
          · subst h2; simp at hsl; omega
          · rw [gs h2, h1] at h; cases h.2), fin_top hfs]
  simp only [flush_text hn]
  show R s (i + 1 + w.length + 1) _ = R s _ _
  rw [show i + 1 + w.length + 1 = i + (w.length + 2) by omega]
  rfl
theorem endP_eq (s : Bs) : endP s = (R s 0 Pst.first).drop 0 := rfl
theorem top_first (x : Sp) (hx : x.kind ≠ 0) : Pst.first.top (·.add x) = ⟨[⟨⟨[x], []⟩, 0, [], 0⟩], []⟩ := by
  simp [Pst.first, Pst.top, onTop, Rw.add, hx, Rw.flush, Rw.none]
/-- a word between two signs -/
theorem end_styled {c : UInt8} {k : Nat} {w : Bs} (hck : (c = 42 ∧ k = 1) ∨ (c = 95 ∧ k = 2)) (hw : small w = true) (hn : w ≠ []) : endP (c :: (w ++ [c])) = ⟨[⟨⟨[⟨k, [], [], [], [txt w]⟩], []⟩, 0, [], 0⟩], []⟩ := by
  have hk : k ≠ 0 := by rcases hck with ⟨_, rfl⟩ | ⟨_, rfl⟩ <;> simp
  rw [endP_eq, run_styled (s := c :: (w ++ [c])) (i := 0) (pre := []) (suf := []) hck hw hn rfl rfl Inv.first rfl rfl (by omega) (.inl rfl), R_end (by simp; try omega), top_first _ hk]
  rfl
/-- .. between two accents, and in general: code -/
theorem next_here {s pre w suf : Bs} {i : Nat} (hs : s = pre ++ (w ++ 96 :: suf)) (hi : i = pre.length) (hw : (96 : UInt8) ∉ w) : nextAt s i [96] = some (i + w.length) := by
  have h : Lib.index (s.drop i) [96] = w.length := by
    subst hs; subst hi
    rw [List.drop_left' rfl]
    refine Lib.index_first (by simp) ?_ (fun j hj => ?_)
    · unfold Lib.occAt; rw [List.drop_left' rfl]; simp
    · have : ((96 : UInt8) == w[j]) = false := by
        rw [beq_eq_false_iff_ne]
        intro e
        exact hw (e ▸ List.getElem_mem hj)
      unfold Lib.occAt
      rw [List.drop_append_of_le_length (by omega), List.drop_eq_getElem_cons hj, List.cons_append, List.isPrefixOf, this]
      rfl
  unfold nextAt
  rw [h, if_neg (by omega)]
  simp
theorem next_nowhere {s : Bs} {i : Nat} (hw : (96 : UInt8) ∉ s.drop i) : nextAt s i [96] = none := by
  have h : Lib.index (s.drop i) [96] = -1 := by
    refine Lib.index_none fun j hj => ?_
    unfold Lib.occAt
    by_cases h1 : j < (s.drop i).length
    · rw [List.drop_eq_getElem_cons h1]
      have : ((96 : UInt8) == (s.drop i)[j]) = false := by
        rw [beq_eq_false_iff_ne]
        intro e
        exact hw (e ▸ List.getElem_mem h1)
      simp only [List.isPrefixOf, this, Bool.false_and]
    · rw [List.drop_eq_nil_of_le (by omega)]; rfl
  unfold nextAt
  rw [h, if_pos (by decide)]
theorem end_code {w : Bs} (hw : (96 : UInt8) ∉ w) : endP (96 :: (w ++ [96])) = ⟨[⟨⟨[⟨3, w, [], [], []⟩], []⟩, 0, [], 0⟩], []⟩ := by
  have hn := next_here (s := 96 :: (w ++ [96])) (pre := [96]) (w := w) (suf := []) (i := 0 + [(96 : UInt8)].length) rfl rfl hw
  rw [endP_eq, R_step Inv.first (by simp), step_code _ rfl]
  unfold Pst.between
  rw [hn]
  simp only [codeS]
  have e : List.take (0 + [(96 : UInt8)].length + w.length - (0 + [(96 : UInt8)].length)) (List.drop (0 + [(96 : UInt8)].length) (96 :: (w ++ [96]))) = w := by
    rw [Nat.add_sub_cancel_left]
    simp
  rw [e, R_end (by simp; try omega), top_first _ (by simp)]
  rfl
end Go.Bd
namespace Go.Bd
theorem run_signtext {c : UInt8} {k : Nat} {s : Bs} {st : Pst} {i : Nat} (hck : (c = 42 ∧ k = 1) ∨ (c = 95 ∧ k = 2)) (hI : Inv st i) (hi : i < s.length) (hc : s.getD i 0 = c) (hl : lastK k st.fs = 0)
    (hp : (0 < i ∧ solid (s.getD (i - 1) 0) = true) ∨ s.length ≤ i + 1 ∨ blank (s.getD (i + 1) 0) = true) : R s i st = R s (i + 1) (st.write [c]) := by
  rw [R_step hI hi]
  rcases hck with ⟨rfl, rfl⟩ | ⟨rfl, rfl⟩
  · rw [step_star st hi hc, mark_text hc hl hp]
  · rw [step_bar st hi hc, mark_text hc hl hp]
theorem lastK_write (st : Pst) (k : Nat) (s : Bs) : lastK k (st.write s).fs = lastK k st.fs := by
  unfold Pst.write Pst.top
  cases st.fs with
  | nil => rfl
  | cons f r => simp only [onTop, lastK]
theorem end_first (s : Bs) : (Pst.first.write s).drop 0 = ⟨[⟨⟨[], s⟩, 0, [], 0⟩], []⟩ := by
  simp [Pst.write, Pst.top, onTop, Pst.first, Rw.write, Rw.none, Pst.drop, Pst.dropN]
theorem lastK_first (k : Nat) (s : Bs) : lastK k (Pst.first.write s).fs = 0 := by rw [lastK_write]; rfl
/-- a text all of which is text -/
def AllText (s : Bs) : Prop := endP s = ⟨[⟨⟨[], s⟩, 0, [], 0⟩], []⟩
theorem small_last {w : Bs} (hw : small w = true) (hn : w ≠ []) : solid (w.getD (w.length - 1) 0) = true := (small_get hw (by have := List.length_pos_iff.2 hn; omega)).2.1
theorem text_behind {w : Bs} (hw : small w = true) (hn : w ≠ []) : AllText (120 :: 42 :: (w ++ [42])) := by
  have hl := List.length_pos_iff.2 hn
  unfold AllText
  rw [endP_eq, R_plain (s := 120 :: 42 :: (w ++ [42])) (i := 0) (pre := []) (w := [120]) (suf := 42 :: (w ++ [42])) Inv.first rfl rfl (by decide)]
  have h1 := (Inv.first.write [120])
  rw [run_signtext (s := 120 :: 42 :: (w ++ [42])) (c := 42) (k := 1) (.inl ⟨rfl, rfl⟩) h1 (by simp; try omega) rfl (lastK_first 1 _) (.inl ⟨by simp, (rfl : solid 120 = true)⟩), write_write]
  have h2 := (Inv.first.write ([120] ++ [42]))
  rw [R_plain (s := 120 :: 42 :: (w ++ [42])) (i := 0 + [(120 : UInt8)].length + 1) (pre := [120, 42]) (w := w) (suf := [42]) (h2.more (by simp)) rfl rfl (small_plain hw), write_write]
  have h3 := (Inv.first.write ([120] ++ [42] ++ w))
  have e : (120 :: 42 :: (w ++ [42])).getD (0 + [(120 : UInt8)].length + 1 + w.length) 0 = 42 := by
    have := at_mid (120 :: 42 :: w) [] 42
    have e : 0 + [(120 : UInt8)].length + 1 + w.length = (120 :: 42 :: w : Bs).length := by simp; omega
    rw [e]; exact this
  have e2 : (120 :: 42 :: (w ++ [42])).getD (0 + [(120 : UInt8)].length + 1 + w.length - 1) 0 = w.getD (w.length - 1) 0 := by
    have e : 0 + [(120 : UInt8)].length + 1 + w.length - 1 = (w.length - 1) + 1 + 1 := by simp; omega
    rw [e]
    show (w ++ [42]).getD (w.length - 1) 0 = _
    exact getD_app_left (by omega)
  rw [run_signtext (c := 42) (k := 1) (.inl ⟨rfl, rfl⟩) (h3.more (by simp; omega)) (by simp; try omega) e (lastK_first 1 _) (.inl ⟨by simp; try omega, by rw [e2]; exact small_last hw hn⟩), write_write, R_end (by simp; try omega), end_first]
  simp
theorem text_blank {w : Bs} (hw : small w = true) : AllText (42 :: 32 :: (w ++ [32, 42])) := by
  have hwp : (32 :: (w ++ [32])).all plainC = true := by
    rw [List.all_cons, List.all_append, small_plain hw]; decide
  unfold AllText
  rw [endP_eq, run_signtext (s := 42 :: 32 :: (w ++ [32, 42])) (c := 42) (k := 1) (.inl ⟨rfl, rfl⟩) Inv.first (by simp) rfl rfl (.inr (.inr (rfl : blank 32 = true)))]
  have h1 := (Inv.first.write [42])
  rw [R_plain (s := 42 :: 32 :: (w ++ [32, 42])) (i := 0 + 1) (pre := [42]) (w := 32 :: (w ++ [32])) (suf := [42]) (h1.more (by simp)) (by simp) rfl hwp, write_write]
  have h2 := (Inv.first.write ([42] ++ 32 :: (w ++ [32])))
  have e : (42 :: 32 :: (w ++ [32, 42])).getD (0 + 1 + (32 :: (w ++ [32])).length) 0 = 42 := by
    have := at_mid (42 :: 32 :: (w ++ [32])) [] 42
    have e : 0 + 1 + (32 :: (w ++ [32])).length = (42 :: 32 :: (w ++ [32]) : Bs).length := by simp; omega
    rw [e, ← this]; simp
  rw [run_signtext (c := 42) (k := 1) (.inl ⟨rfl, rfl⟩) (h2.more (by simp; omega)) (by simp; try omega) e (lastK_first 1 _) (.inr (.inl (by simp; try omega))), write_write, R_end (by simp; try omega), end_first]
  simp
theorem text_between {w : Bs} (hw : small w = true) (hn : w ≠ []) : AllText (w ++ 95 :: (w ++ 95 :: w)) := by
  have hl := List.length_pos_iff.2 hn
  unfold AllText
  rw [endP_eq, R_plain (s := w ++ 95 :: (w ++ 95 :: w)) (i := 0) (pre := []) (w := w) (suf := 95 :: (w ++ 95 :: w)) Inv.first rfl rfl (small_plain hw)]
  have h1 := (Inv.first.write w)
  have e : (w ++ 95 :: (w ++ 95 :: w)).getD (0 + w.length) 0 = 95 := by rw [Nat.zero_add]; exact at_mid _ _ _
  have e1 : (w ++ 95 :: (w ++ 95 :: w)).getD (0 + w.length - 1) 0 = w.getD (w.length - 1) 0 := by rw [Nat.zero_add]; exact getD_app_left (by omega)
  rw [run_signtext (c := 95) (k := 2) (.inr ⟨rfl, rfl⟩) h1 (by simp; try omega) e (lastK_first 2 _) (.inl ⟨by omega, by rw [e1]; exact small_last hw hn⟩), write_write]
  have h2 := (Inv.first.write (w ++ [95]))
  rw [R_plain (s := w ++ 95 :: (w ++ 95 :: w)) (i := 0 + w.length + 1) (pre := w ++ [95]) (w := w) (suf := 95 :: w) (h2.more (by simp)) (by simp) (by simp) (small_plain hw), write_write]
  have h3 := (Inv.first.write (w ++ [95] ++ w))
  have e : (w ++ 95 :: (w ++ 95 :: w)).getD (0 + w.length + 1 + w.length) 0 = 95 := by
    have := at_mid (w ++ 95 :: w) w 95
    have e : 0 + w.length + 1 + w.length = (w ++ 95 :: w : Bs).length := by simp; omega
    rw [e, ← this]; simp
  have e2 : (w ++ 95 :: (w ++ 95 :: w)).getD (0 + w.length + 1 + w.length - 1) 0 = w.getD (w.length - 1) 0 := by
    rw [getD_app_right (by omega), show 0 + w.length + 1 + w.length - 1 - w.length = (w.length - 1) + 1 by omega]
    show (w ++ 95 :: w).getD (w.length - 1) 0 = _
    exact getD_app_left (by omega)
  rw [run_signtext (c := 95) (k := 2) (.inr ⟨rfl, rfl⟩) (h3.more (by simp; try omega)) (by simp; try omega) e (lastK_first 2 _) (.inl ⟨by omega, by rw [e2]; exact small_last hw hn⟩), write_write]
  have h4 := (Inv.first.write (w ++ [95] ++ w ++ [95]))
  rw [R_plain (s := w ++ 95 :: (w ++ 95 :: w)) (i := 0 + w.length + 1 + w.length + 1) (pre := w ++ 95 :: (w ++ [95])) (w := w) (suf := []) (h4.more (by simp; omega)) (by simp) (by simp; omega) (small_plain hw), write_write, R_end (by simp; try omega), end_first]
  simp
/-- a note of two styled words -/
theorem end_note {w : Bs} (hw : small w = true) (hn : w ≠ []) : endP (94 :: 91 :: 42 :: (w ++ 42 :: 32 :: 95 :: (w ++ [95, 93]))) = ⟨[⟨⟨[⟨6, [], [], [], [⟨1, [], [], [], [txt w]⟩, txt [32], ⟨2, [], [], [], [txt w]⟩]⟩], []⟩, 0, [], 0⟩], []⟩ := by
  have hl := List.length_pos_iff.2 hn
  obtain ⟨s, hs⟩ : ∃ s : Bs, s = 94 :: 91 :: 42 :: (w ++ 42 :: 32 :: 95 :: (w ++ [95, 93])) := ⟨_, rfl⟩
  have hsl : s.length = w.length + w.length + 8 := by rw [hs]; simp; omega
  rw [← hs, endP_eq, R_step Inv.first (by omega), step_note _ (by omega) (by rw [hs]; rfl) (by rw [hs]; rfl) rfl]
  have hI : Inv (Pst.first.begin 6 0 [94, 91]) 2 := Inv.first.begin rfl 6 0 [94, 91] (by simp)
  show (R s 2 (Pst.first.begin 6 0 [94, 91])).drop 0 = _
  rw [run_styled (s := s) (i := 2) (c := 42) (k := 1) (w := w) (pre := [94, 91]) (suf := 32 :: 95 :: (w ++ [95, 93])) (.inl ⟨rfl, rfl⟩) hw hn (by rw [hs]; simp) rfl hI rfl rfl (by rw [hs]; exact fun h => absurd h.2 (show ¬ solid 91 = true by decide)) (.inr (by rfl))]
  have hI1 := (hI.top (n := 1) (g := (·.add ⟨1, [], [], [], [txt w]⟩)) (fun r => by have := wtR_add r ⟨1, [], [], [], [txt w]⟩; simpa [wtS] using this))
  have g1 : s.getD (2 + (w.length + 2)) 0 = 32 := by
    have := at_mid (94 :: 91 :: 42 :: (w ++ [42])) (95 :: (w ++ [95, 93])) 32
    have e : 2 + (w.length + 2) = (94 :: 91 :: 42 :: (w ++ [42]) : Bs).length := by simp; omega
    rw [hs, e, ← this]; simp
  rw [R_plain (s := s) (i := 2 + (w.length + 2)) (pre := 94 :: 91 :: 42 :: (w ++ [42])) (w := [32]) (suf := 95 :: (w ++ [95, 93])) (hI1.more (by omega)) (by rw [hs]; simp) (by simp; omega) (by decide)]
  have hI2 := hI1.write [32]
  have g2 : s.getD (2 + (w.length + 2) + [(32 : UInt8)].length - 1) 0 = 32 := g1
  rw [run_styled (s := s) (i := 2 + (w.length + 2) + [(32 : UInt8)].length) (c := 95) (k := 2) (w := w) (pre := 94 :: 91 :: 42 :: (w ++ [42, 32])) (suf := [93]) (.inr ⟨rfl, rfl⟩) hw hn (by rw [hs]; simp) (by simp; omega) (hI2.more (by simp only [List.length_cons, List.length_nil]; omega)) (by rw [lastK_write]; rfl) rfl (by rw [g2]; exact fun h => absurd h.2 (show ¬ solid 32 = true by decide)) (.inr (by decide))]
  have hI3 := (hI2.top (n := 1) (g := (·.add ⟨2, [], [], [], [txt w]⟩)) (fun r => by have := wtR_add r ⟨2, [], [], [], [txt w]⟩; simpa [wtS] using this))
  have g3 : s.getD (2 + (w.length + 2) + [(32 : UInt8)].length + (w.length + 2)) 0 = 93 := by
    have := at_mid (94 :: 91 :: 42 :: (w ++ 42 :: 32 :: 95 :: (w ++ [95]))) [] 93
    have e : 2 + (w.length + 2) + [(32 : UInt8)].length + (w.length + 2) = (94 :: 91 :: 42 :: (w ++ 42 :: 32 :: 95 :: (w ++ [95])) : Bs).length := by simp; omega
    rw [hs, e, ← this]; simp
  have hst : ((((Pst.first.begin 6 0 [94, 91]).top (·.add ⟨1, [], [], [], [txt w]⟩)).write [32]).top (·.add ⟨2, [], [], [], [txt w]⟩)) = ⟨[⟨⟨[⟨1, [], [], [], [txt w]⟩, txt [32], ⟨2, [], [], [], [txt w]⟩], []⟩, 6, [94, 91], 0⟩, ⟨Rw.none, 0, [], 0⟩], []⟩ := by
    simp [Pst.first, Pst.begin, Pst.top, Pst.write, onTop, Rw.add, Rw.write, Rw.flush, Rw.none]
  have hf := fin_top (f := ⟨⟨[⟨1, [], [], [], [txt w]⟩, txt [32], ⟨2, [], [], [], [txt w]⟩], []⟩, 6, [94, 91], 0⟩) (r := [⟨Rw.none, 0, [], 0⟩]) (fa := []) (by simp)
  have hk6 : lastK 6 (Pst.mk [⟨⟨[⟨1, [], [], [], [txt w]⟩, txt [32], ⟨2, [], [], [], [txt w]⟩], []⟩, 6, [94, 91], 0⟩, ⟨Rw.none, 0, [], 0⟩] []).fs = 1 := rfl
  rw [hst] at hI3 ⊢
  simp only [List.length_cons, List.length_nil] at hf
  generalize hst2 : Pst.mk [⟨⟨[⟨1, [], [], [], [txt w]⟩, txt [32], ⟨2, [], [], [], [txt w]⟩], []⟩, 6, [94, 91], 0⟩, ⟨Rw.none, 0, [], 0⟩] [] = st2 at hI3 hf hk6 ⊢
  rw [R_step (hI3.more (by simp only [List.length_cons, List.length_nil]; omega)) (by simp only [List.length_cons, List.length_nil]; omega), step_shut st2 (by simp only [List.length_cons, List.length_nil]; omega) g3 (by rw [hk6]; omega), R_end (by simp only [List.length_cons, List.length_nil]; omega), hk6]
  simp only
  rw [show (1 : Nat) = 0 + 1 from rfl, hf]
  rfl
end Go.Bd
namespace Go.Bd
open Go.RowKit
def frame0 : Array Value := #[.slice none 0 0, .slice none 0 0, .int .u8 0, .string ⟨#[]⟩, .int .i64 0]
def colFirst (B : Nat) (b : Nat) : Nat := if b < B then 5 else if b = B then 1 else if b = B + 1 then 2 else if b = B + 2 then 0 else 9
def firstW (w : World) (s : ByteArray) : World := ((w.alloc (.cells frame0 tF)).alloc (.map #[] 0)).alloc (.cells #[.string s, .slice (some ⟨w.heap.size, 0, none⟩) 1 1, .slice none 0 0, .map (some (w.heap.size + 1))] tP)
theorem psFirst (P : Program) (w : World) (s : ByteArray) : PSx P (firstW w s) w.heap.size (colFirst w.heap.size) (w.heap.size + 1 + 1) w.heap.size 1 1 s Pst.first 0 (.slice none 0 0) (w.heap.size + 1) frame0 [] := by
  have hz : (firstW w s).heap.size = w.heap.size + 3 := by simp [firstW]
  have hp : Holds (firstW w s) (w.heap.size + 1 + 1) tP #[.string s, .slice (some ⟨w.heap.size, 0, none⟩) 1 1, .slice none 0 0, .map (some (w.heap.size + 1))] := by
    have := Holds.new ((w.alloc (.cells frame0 tF)).alloc (.map #[] 0)) tP #[.string s, .slice (some ⟨w.heap.size, 0, none⟩) 1 1, .slice none 0 0, .map (some (w.heap.size + 1))]
    simpa [firstW] using this
  have ho : Holds (firstW w s) w.heap.size tF frame0 := ((Holds.new w tF frame0).alloc _).alloc _
  refine ⟨by omega, hp, by unfold colFirst; rw [if_neg (by omega), if_neg (by omega), if_neg (by omega), if_pos (by omega)], by omega, ho, by simp [colFirst], rfl, by omega, by simp [Pst.first], by unfold maxLen; omega, ?_, World.ownsRow_nil _ _ _ _, (fun b hb => by cases hb), by omega, ?_, by simp [colFirst]; try omega, (fun g hg => by cases hg), by simp, fun b hb => ?_⟩
  · intro k f hf
    have hk : k = 0 := by
      have := (List.getElem?_eq_some_iff.1 hf).1
      simp [Pst.first] at this
      omega
    subst hk
    simp only [Pst.first, List.reverse_singleton, List.getElem?_cons_zero, Option.some.injEq] at hf
    subst hf
    exact ⟨.slice none 0 0, .slice none 0 0, ⟨rfl, rfl, rfl, rfl, rfl, SpanRow.nil _ _ _ _, World.ownsRow_nil _ _ _ _, (fun b hb => by cases hb), (fun b hb => by cases hb)⟩⟩
  · have h1 := World.ownsMap_made (H := Unit) (w.alloc (.cells frame0 tF)) P 9 unitElem
    have h2 : (firstW w s).ownsMap (H := Unit) P 9 unitElem (w.heap.size + 1) 0 (.map []) := by
      have h3 := h1.kept (w' := firstW w s) (row := none) ⟨rfl, rfl, rfl, by simp [firstW], fun k hk _ => Below.heap_alloc _ _ k hk⟩ (by simp)
      simpa using h3
    exact h2
  · rw [hz] at hb
    unfold colFirst
    rw [if_neg (by omega), if_neg (by omega), if_neg (by omega), if_neg (by omega)]
/-- the faults that Parse answers -/
def FaultRow (w : World) (B : Nat) (v : Value) (l : List Nat) : Prop := w.ownsRow B 41 1 v l.length (l.map fun (f : Nat) => Value.int .i64 (f : Int))
end Go.Bd
namespace Go.Proofs.YtgiiglcgfbnaoaaGreatDoor
open Go.RowKit Go.Bd
theorem fault_info : (Tryz.prog.info? 41).map (fun i => (i.zero, i.size, i.bytes)) = some (some (.int .i64 0), 1, 8) := by kernel_rfl
theorem make_frame (w : World) : (Instr.makeSlice 58 (.int .i64 1) (.int .i64 1)).run Tryz.prog w = .ok (.slice (some ⟨w.heap.size, 0, none⟩) 1 1) (w.alloc (.cells frame0 70)) := by
  obtain ⟨i0, hi, hz0, hz1, hz2⟩ := info_parts frame_info
  have h := run_make (P := Tryz.prog) w 58 70 i0 _ Tryz.underlying58 hi hz0 .i64 .i64 1 1 (by omega) (Int.le_refl _) (by rw [hz2]; decide) (by decide)
  rw [hz1] at h
  have e : madeCells (Value.agg #[.slice none 0 0, .slice none 0 0, .int .u8 0, .string ⟨#[]⟩, .int .i64 0]).cells (Int.toNat 1 * 5) = frame0 := by first | rfl | kernel_rfl | decide
  rw [e] at h
  exact h
theorem make_map (w : World) : (Instr.makeMap 59 none).run Tryz.prog w = .ok (.map (some w.heap.size)) (w.alloc (.map #[] 0)) := by first | rfl | kernel_rfl
set_option maxRecDepth 100000 in
set_option maxHeartbeats 4000000 in
theorem parseSpans_any (s : ByteArray) (w : World) (hs : s.size ≤ 100000) (m : Int) (hm : w.cell? ⟨0, 0, none⟩ = some (.int .i64 m)) :
    Calls Tryz.prog 19 #[.string s] w fun e w' => ∃ sv fv, e = .returned (.tuple #[sv, fv]) ∧ Below w.heap.size w w' ∧ Forest w' (· < w'.heap.size) sv (spansOf s.data.toList) ∧ FaultRow w' w.heap.size fv (faultsOf s.data.toList) := by
  have hB : 0 < w.heap.size := World.block_lt_of_cell? w _ hm
  have mf := make_frame w
  have HF := Lib.hid (psFirst Tryz.prog w s)
  have HM := Lib.hid hm
  have hls : s.data.toList.length = s.size := by simp
  have HLS := Lib.hid hls
  clear hm hls
  go_enter Tryz.func19, Tryz.ntmps19
  go_wp2_with fail
  rw [make_map]
  clear mf
  simp only [Result.andThen]
  rw [Oper.upon_value]
  go_wp2
  go_loopg [5] (s.size) (fun q v wr => ∃ (i : Nat) (st : Pst) (col : Nat → Nat) (ob cap : Nat) (fv : Value) (cs : Array Value) (gn : List Bs), i + q = s.size ∧ v = .int .i64 (i : Int) ∧ Hid (Bd.Inv st i ∧ R s.data.toList i st = R s.data.toList 0 Pst.first ∧ PSx Tryz.prog wr w.heap.size col (w.heap.size + 1 + 1) ob cap st.fs.length s st i fv (w.heap.size + 1) cs gn ∧ Below w.heap.size w wr))
  case atStart =>
    refine ⟨0, Pst.first, _, _, _, _, _, _, by omega, rfl, Inv.first, rfl, HF.out, ?_⟩
    exact (((Below.refl _ _).alloc (Nat.le_refl _) _).alloc (by simp) _).alloc (by simp; omega) _
  case round =>
    clear HF
    obtain ⟨i, st, col, ob, cap, fv, cs, gn, hq, rfl, HR⟩ := hrel
    obtain ⟨hI, hRR, hP, hb⟩ := HR.out
    by_cases hlt : i < s.size
    · have cst := step_any hP rfl hI hlt hs m ((hb.cell (p := ⟨0, 0, none⟩) hB).trans HM.out) hB
      obtain ⟨h3, h4, h5⟩ := hI.step (s := s.data.toList) (by rw [HLS.out]; exact hlt)
      rw [HLS.out] at h5
      have hRS : R s.data.toList (st.step s.data.toList i).2 (st.step s.data.toList i).1 = R s.data.toList 0 Pst.first := by rw [← R_step hI (by rw [HLS.out]; exact hlt)]; exact hRR
      have HRS := Lib.hid hRS
      have HI3 := Lib.hid h3
      have HB := Lib.hid hb
      clear hI hRR hP hb HR h3 hRS
      generalize (st.step s.data.toList i).2 = j at cst h4 h5 HRS HI3
      generalize (st.step s.data.toList i).1 = st' at cst HRS HI3
      go_wp2_with (go_at_call 37; refine cst.mono ?_; clear cst; rintro e w' ⟨rfl, hpost⟩)
      have HPost := Lib.hid hpost
      clear hpost
      go_roundg (s.size - j)
      case measure => omega
      case rel =>
        obtain ⟨col', ob', cap', fv', cs', gn', h6, h7⟩ := HPost.out
        exact ⟨j, st', col', ob', cap', fv', cs', gn', by omega, rfl, HI3.out, HRS.out, h6, HB.out.trans h7.below⟩
    · obtain rfl : i = s.size := by omega
      have hst : st.drop 0 = endP s.data.toList := by
        rw [endP_eq, ← hRR, R_end (by rw [HLS.out]; exact Nat.le_refl _)]
      have hI1 := (hI.drop (n := 0) hI.2.2.1).1
      have cd := drop_any hP rfl 0 hI.2.2.1 s.size hI hs
      rw [hst] at cd hI1
      have hfa : (endP s.data.toList).faults = faultsAt s.data.toList := rfl
      have hnd := faults_nodup s.data.toList
      have HSO : Hid (spansOf s.data.toList = match (endP s.data.toList).fs with | f :: _ => f.row.flush.sp | [] => []) := rfl
      have HFO : Hid (faultsOf s.data.toList = (sortF (endP s.data.toList).faults).map (·.2)) := rfl
      rw [← hfa] at hnd
      obtain ⟨f, hfs⟩ := endP_one s.data.toList
      generalize endP s.data.toList = ed at cd hI1 hfs hnd HSO HFO
      have hwt : wtF f ≤ s.size := by
        have := hI1.1
        rw [hfs, wtFs_cons] at this
        omega
      have hsl : f.row.sp.length ≤ 100000 ∧ f.row.tx.length ≤ 100000 := by
        have := wtL_len f.row.sp
        unfold wtF wtR at hwt
        omega
      obtain ⟨hsl1, hsl2⟩ := hsl
      have hfl : ed.faults.length ≤ 100001 := by have := hI1.2.1; omega
      have HFS := Lib.hid hfs
      have HND := Lib.hid hnd
      have HB := Lib.hid hb
      clear hI hRR hP hb HR hst hI1 hfa hfs hwt hnd
      go_wp2_with fail
      refine cd.mono ?_
      clear cd
      rintro e w1 ⟨rfl, col1, fv1, cs1, h1, st1⟩
      have H1 := Lib.hid h1
      have HB1 := Lib.hid (HB.out.trans st1.below)
      clear h1 st1
      go_wp2_with fail
      refine (top_any (n := 0) H1.out (by omega)).mono ?_
      rintro e w2 ⟨rfl, kk, rfl⟩
      have cf := flushTop_any (PSx.drewN H1.out kk) HFS.out (by omega) (by omega)
      go_wp2_with fail
      refine cf.mono ?_
      clear cf
      rintro e w3 ⟨rfl, col3, cs3, h3, st3⟩
      have hfs3 : (ed.top (·.flush)).fs = [{ f with row := f.row.flush }] := by simp [Pst.top, onTop, HFS.out]
      have HFS3 := Lib.hid hfs3
      have hfa3 : (ed.top (·.flush)).faults = ed.faults := rfl
      have csr := sort_any h3.hf (by rw [hfa3]; exact HND.out) (by rw [hfa3]; omega)
      have hf3 := h3.hf
      rw [hfa3] at csr hf3
      have d2 := h3.hp.cell 2
      have H3 := Lib.hid h3
      have HB3 := Lib.hid (HB1.out.trans st3.undrew.below)
      clear h3 st3 hfs3 hfa3
      go_wp2_with fail
      refine csr.mono ?_
      clear csr
      rintro e w4 ⟨rfl, hch4, ho4⟩
      have hsl4 : (sortF ed.faults).length = ed.faults.length := (sortF_perm _).length_eq
      obtain ⟨col4, h4, st4⟩ := H3.out.faults (fa := sortF ed.faults) hch4 (fun b hb => .inr hb) (hch4.holds (fun e => by have h1 := H3.out.cf _ e; have h2 := H3.out.cp; omega) H3.out.hp) (by rw [hsl4]; exact ho4) (fun b hb => .inl hb)
      have e2 := h4.hp.cell 2
      have H4 := Lib.hid h4
      have HB4 := Lib.hid (HB3.out.trans st4.below)
      have HHP := Lib.hid h4.hp
      have hB4 : w.heap.size ≤ w4.heap.size := HB4.out.size
      clear h4 st4 hch4 d2 hf3
      have HSL := Lib.hid hsl4
      clear hsl4
      generalize hn : ed.faults.length = n at hfl ho4 HSL
      obtain ⟨A, c, rfl, hle⟩ := own_slice2 ho4
      have HC : Hid (∀ (j : Nat) (p : Nat × Nat), (sortF ed.faults)[j]? = some p → ∃ g, A = some ⟨g, 0, none⟩ ∧ g < w4.heap.size ∧ w4.cell? ⟨g, j * 2, none⟩ = some (.int .i64 (p.1 : Int)) ∧ w4.cell? ⟨g, j * 2 + 1, none⟩ = some (.int .i64 (p.2 : Int))) := fun j p hj => by
        have hjl : j < n := by have := (List.getElem?_eq_some_iff.1 hj).1; rw [HSL.out] at this; exact this
        have hpe : (sortF ed.faults)[j]! = p := by rw [List.getElem!_eq_getElem?_getD, hj]; rfl
        rcases ho4.2 with ⟨_, h0⟩ | ⟨g, cap', cur, hv, hg, hh, hc, hm, hs, ht⟩
        · omega
        · injection hv with h1 _ _
          have get : ∀ q, q < 2 → w4.cell? ⟨g, j * 2 + q, none⟩ = (encT p)[q]? := fun q hq => by
            have := toldCells_get (sortF ed.faults) (j * 2 + q) (by rw [HSL.out]; omega)
            rw [← ht, List.getElem?_take_of_lt (by omega), Array.getElem?_toList, show (j * 2 + q) / 2 = j by omega, show (j * 2 + q) % 2 = q by omega, hpe] at this
            exact (Holds.cell hh _).trans this
          exact ⟨g, h1, (Array.getElem?_eq_some_iff.1 hh).1, get 0 (by omega), get 1 (by omega)⟩
      have HLE := Lib.hid hle
      have HO4 := Lib.hid ho4
      have HN := Lib.hid hn
      clear ho4 hle hn
      go_wp2
      go_loopg [6, 38] n (fun q v idx wr => ∃ k : Nat, k + q = n ∧ idx = .int .i64 (k : Int) ∧ Hid (wr.ownsRow w4.heap.size 41 1 v k (((sortF ed.faults).map fun (p : Nat × Nat) => Value.int .i64 (p.2 : Int)).take k) ∧ Below w4.heap.size w4 wr))
      case atStart => exact ⟨0, by omega, rfl, World.ownsRow_nil _ _ _ _, Below.refl _ _⟩
      case round =>
        obtain ⟨k, hk, rfl, HR⟩ := hrel
        obtain ⟨hown, hbl⟩ := HR.out
        have hsz := hbl.size
        by_cases hlt : k < n
        · obtain ⟨p, hp⟩ : ∃ p, (sortF ed.faults)[k]? = some p := ⟨_, List.getElem?_eq_getElem (by rw [HSL.out]; exact hlt)⟩
          obtain ⟨g, rfl, hg, p1, p2⟩ := HC.out k p hp
          replace p1 := (hbl.cell (p := ⟨g, k * 2, none⟩) hg).trans p1
          replace p2 := (hbl.cell (p := ⟨g, k * 2 + 1, none⟩) hg).trans p2
          have HT := Lib.hid (show ((sortF ed.faults).map (fun (p : Nat × Nat) => Value.int .i64 (p.2 : Int))).take (k + 1) = ((sortF ed.faults).map (fun (p : Nat × Nat) => Value.int .i64 (p.2 : Int))).take k ++ [.int .i64 (p.2 : Int)] by
            rw [List.take_add_one, List.getElem?_map, hp]; rfl)
          have HBL := Lib.hid hbl
          clear HR hp hbl
          have hN := Holds.new (wr.alloc (.cells #[.int .i64 (p.1 : Int), .int .i64 (p.2 : Int)] 73)) 41 #[.int .i64 (p.2 : Int)]
          rw [show (wr.alloc (.cells #[.int .i64 (p.1 : Int), .int .i64 (p.2 : Int)] 73)).heap.size = wr.heap.size + 1 by simp] at hN
          have HNW := Lib.hid hN
          clear hN
          go_wp2_with (at_builtin; refine wpList_app_el _ rfl _ _ 36 rfl w4.heap.size 41 (.int .i64 0) 1 8 Tryz.underlying36 fault_info rfl (by omega) _ k _ rfl ((hown.alloc _).alloc _) _ 1 [.int .i64 (p.2 : Int)] rfl rfl HNW.out (by simp [Value.oneCell']) (by omega) (by omega) (by simp; omega) ?_)
          intro v1 w5 ho5 hg5 hn5
          have hb5 : Below w4.heap.size w4 w5 := ((HBL.out.alloc hsz (.cells #[.int .i64 (p.1 : Int), .int .i64 (p.2 : Int)] 73)).alloc (by simp; omega) (.cells #[.int .i64 (p.2 : Int)] 41)).trans ((Chg.grown hg5).toBelow (by simp; omega) (fun b hb => (hown.lt b hb.symm).1))
          rw [← HT.out] at ho5
          have HR5 := Lib.hid (And.intro ho5 hb5)
          clear hown hg5 hn5 ho5 hb5
          go_wp2
          go_roundg (gk - 1)
          case measure => omega
          case rel => exact ⟨k + 1, by omega, by go_num, HR5.out⟩
        · obtain rfl : k = n := by omega
          have h5 := H4.out.keep (Chg.below hbl (fun _ => False)) (fun _ h => h.elim)
          obtain ⟨sv, tv, hfr⟩ := h5.fr 0 { f with row := f.row.flush } (by rw [HFS3.out]; rfl)
          obtain ⟨q0, _, _, _, _⟩ := frame_cells hfr h5.ho
          have q0' : wr.cell? ⟨ob, 0, none⟩ = some sv := by simpa using q0
          have HFR : Hid (Forest wr (· < wr.heap.size) sv f.row.flush.sp) := hfr.sp.forest (fun b hb => h5.lt4 hb) (fun b hb => (hfr.sp.lt b hb).2)
          have H5 := Lib.hid h5
          have HBW := Lib.hid (HB4.out.trans (hbl.mono hB4))
          clear h5 hfr q0 HR hbl
          go_wp2_with fail
          refine (top_any (n := 0) H5.out (by omega)).mono ?_
          rintro e w6 ⟨rfl, kk6, rfl⟩
          go_wp2
          go_ret2
          have hso : spansOf s.data.toList = f.row.flush.sp := by rw [HSO.out, HFS.out]
          have hfo : faultsOf s.data.toList = (sortF ed.faults).map (·.2) := HFO.out
          refine ⟨sv, _, rfl, ?_, ?_, ?_⟩
          · exact ⟨HBW.out.os, HBW.out.tape, HBW.out.output, HBW.out.size, HBW.out.block⟩
          · rw [hso]; exact HFR.out.keep (fun _ h => h) (fun _ _ _ h => h)
          · unfold FaultRow
            rw [hfo, List.length_map, HSL.out, List.map_map]
            rw [List.take_of_length_le (by rw [List.length_map, HSL.out]; exact Nat.le_refl _)] at hown
            exact ⟨hown.1, hown.2.imp id (fun ⟨g, cap, cur, a, b, r⟩ => ⟨g, cap, cur, a, by omega, r⟩)⟩
end Go.Proofs.YtgiiglcgfbnaoaaGreatDoor
namespace Go.Proofs.YtgiiglcgfbnaoaaGreatDoor
open Go.RowKit Go.Bd Go.Shelf
def bldRen : Go.Shelf.Ren := ⟨fun | 166 => 49 | 167 => 51 | 240 => 83 | 276 => 108 | n => n, fun | 0 => 0 | 3 => 3 | 4 => 4 | 5 => 5 | 9 => 9 | 20 => 20 | 37 => 45 | 70 => 50 | 72 => 52 | 75 => 80 | 164 => 136 | 80 => 54 | 127 => 87 | n => n, fun | n => n⟩
theorem bldExtra : Builder.Extra Tryz.prog bldRen where
  sizeBuilder := by kernel_rfl
  liesBuilder := by kernel_rfl
  t5 := Tryz.underlying5
  a5 := Tryz.isAgg5
  z5 := Tryz.sizeOf5
  v5 := Tryz.zeroValue5
  infoByte := by kernel_rfl
  cellsByte := by kernel_rfl
  sizeByte := by kernel_rfl
  neB5 := by decide
theorem bldLays240 : Go.Proofs.Lays.n240 Tryz.prog bldRen where
  mixed := by kernel_rfl
  f240 := Tryz.func83.trans (congrArg some (by kernel_rfl))
  f276 := Tryz.func108.trans (congrArg some (by kernel_rfl))
  t0 := Tryz.underlying0
  a0 := Tryz.isAgg0
  z0 := Tryz.sizeOf0
  v0 := Tryz.zeroValue0
  t4 := Tryz.underlying4
  a4 := Tryz.isAgg4
  z4 := Tryz.sizeOf4
  v4 := Tryz.zeroValue4
  t9 := Tryz.underlying9
  a9 := Tryz.isAgg9
  z9 := Tryz.sizeOf9
  v9 := Tryz.zeroValue9
  t20 := Tryz.underlying20
  a20 := Tryz.isAgg20
  z20 := Tryz.sizeOf20
  v20 := Tryz.zeroValue20
  t70 := Tryz.underlying50
  a70 := Tryz.isAgg50
  z70 := Tryz.sizeOf50
  v70 := Tryz.zeroValue50
  t72 := Tryz.underlying52
  a72 := Tryz.isAgg52
  z72 := Tryz.sizeOf52
  v72 := Tryz.zeroValue52
  t164 := Tryz.underlying136
  a164 := Tryz.isAgg136
  z164 := Tryz.sizeOf136
  v164 := Tryz.zeroValue136
theorem bldLays166 : Go.Proofs.Lays.n166 Tryz.prog bldRen where
  mixed := by kernel_rfl
  f166 := Tryz.func49.trans (congrArg some (by kernel_rfl))
  f240 := Tryz.func83.trans (congrArg some (by kernel_rfl))
  f276 := Tryz.func108.trans (congrArg some (by kernel_rfl))
  t0 := Tryz.underlying0
  a0 := Tryz.isAgg0
  z0 := Tryz.sizeOf0
  v0 := Tryz.zeroValue0
  t3 := Tryz.underlying3
  a3 := Tryz.isAgg3
  z3 := Tryz.sizeOf3
  v3 := Tryz.zeroValue3
  t4 := Tryz.underlying4
  a4 := Tryz.isAgg4
  z4 := Tryz.sizeOf4
  v4 := Tryz.zeroValue4
  t9 := Tryz.underlying9
  a9 := Tryz.isAgg9
  z9 := Tryz.sizeOf9
  v9 := Tryz.zeroValue9
  t20 := Tryz.underlying20
  a20 := Tryz.isAgg20
  z20 := Tryz.sizeOf20
  v20 := Tryz.zeroValue20
  t37 := Tryz.underlying45
  a37 := Tryz.isAgg45
  z37 := Tryz.sizeOf45
  v37 := Tryz.zeroValue45
  t70 := Tryz.underlying50
  a70 := Tryz.isAgg50
  z70 := Tryz.sizeOf50
  v70 := Tryz.zeroValue50
  t72 := Tryz.underlying52
  a72 := Tryz.isAgg52
  z72 := Tryz.sizeOf52
  v72 := Tryz.zeroValue52
  t75 := Tryz.underlying80
  a75 := Tryz.isAgg80
  z75 := Tryz.sizeOf80
  v75 := Tryz.zeroValue80
  t164 := Tryz.underlying136
  a164 := Tryz.isAgg136
  z164 := Tryz.sizeOf136
  v164 := Tryz.zeroValue136
theorem bldLays167 : Go.Proofs.Lays.n167 Tryz.prog bldRen where
  mixed := by kernel_rfl
  f167 := Tryz.func51.trans (congrArg some (by kernel_rfl))
  f240 := Tryz.func83.trans (congrArg some (by kernel_rfl))
  f276 := Tryz.func108.trans (congrArg some (by kernel_rfl))
  t0 := Tryz.underlying0
  a0 := Tryz.isAgg0
  z0 := Tryz.sizeOf0
  v0 := Tryz.zeroValue0
  t4 := Tryz.underlying4
  a4 := Tryz.isAgg4
  z4 := Tryz.sizeOf4
  v4 := Tryz.zeroValue4
  t5 := Tryz.underlying5
  a5 := Tryz.isAgg5
  z5 := Tryz.sizeOf5
  v5 := Tryz.zeroValue5
  t9 := Tryz.underlying9
  a9 := Tryz.isAgg9
  z9 := Tryz.sizeOf9
  v9 := Tryz.zeroValue9
  t20 := Tryz.underlying20
  a20 := Tryz.isAgg20
  z20 := Tryz.sizeOf20
  v20 := Tryz.zeroValue20
  t37 := Tryz.underlying45
  a37 := Tryz.isAgg45
  z37 := Tryz.sizeOf45
  v37 := Tryz.zeroValue45
  t70 := Tryz.underlying50
  a70 := Tryz.isAgg50
  z70 := Tryz.sizeOf50
  v70 := Tryz.zeroValue50
  t72 := Tryz.underlying52
  a72 := Tryz.isAgg52
  z72 := Tryz.sizeOf52
  v72 := Tryz.zeroValue52
  t75 := Tryz.underlying80
  a75 := Tryz.isAgg80
  z75 := Tryz.sizeOf80
  v75 := Tryz.zeroValue80
  t164 := Tryz.underlying136
  a164 := Tryz.isAgg136
  z164 := Tryz.sizeOf136
  v164 := Tryz.zeroValue136
/-- a builder that holds these bytes -/
abbrev Bld (B b : Nat) (l : Bs) (w : World) : Prop := Lib.IsBuilder 52 5 B b (Lib.byteCells l) w
theorem bld_write (B b : Nat) (l : Bs) (s : ByteArray) (w : World) (h : Bld B b l w) (hlen : l.length + s.size ≤ 140737488355328) (hBw : B ≤ w.heap.size) :
    Calls Tryz.prog 49 #[.pointer (some ⟨b, 0, none⟩), .string s] w fun e w' => e = .returned (.tuple #[.int .i64 s.size, .nilIface]) ∧ Bld B b (l ++ s.data.toList) w' ∧ Below B w w' :=
  (Any.Builder_WriteString (ρ := bldRen) bldLays166 bldExtra B b _ s w h (by rw [Lib.byteCells_length]; exact hlen) hBw).mono fun _ _ ⟨h1, h2, h3⟩ => ⟨h1, by unfold Bld; rw [Lib.byteCells, List.map_append]; exact .inr h2, h3⟩
theorem bld_byte (B b : Nat) (l : Bs) (c : UInt8) (w : World) (h : Bld B b l w) (hlen : l.length + 1 ≤ 140737488355328) (hBw : B ≤ w.heap.size) :
    Calls Tryz.prog 51 #[.pointer (some ⟨b, 0, none⟩), .int .u8 (c.toNat : Int)] w fun e w' => e = .returned .nilIface ∧ Bld B b (l ++ [c]) w' ∧ Below B w w' :=
  (Any.Builder_WriteByte (ρ := bldRen) bldLays167 bldExtra B b _ (c.toNat : Int) w h (by rw [Lib.byteCells_length]; exact hlen) hBw).mono fun _ _ ⟨h1, h2, h3⟩ => ⟨h1, by unfold Bld; rw [Lib.byteCells, List.map_append]; exact .inr h2, h3⟩
theorem bld_string (B b : Nat) (l : Bs) (w : World) (h : Bld B b l w) (hBw : B ≤ w.heap.size) :
    Calls Tryz.prog 29 #[.pointer (some ⟨b, 0, none⟩)] w fun e w' => e = .returned (.string ⟨l.toArray⟩) ∧ Below B w w' :=
  Tryz.Builder_String_any B b l w h hBw
end Go.Proofs.YtgiiglcgfbnaoaaGreatDoor
namespace Go.Bd
mutual
/-- the spans of a kind in one -/
def each1 : Sp → Nat → List Sp
  | ⟨q, t, u, v, kids⟩, k => if q = k then ⟨q, t, u, v, kids⟩ :: eachL kids k else eachL kids k
/-- the spans of a kind among these -/
def eachL : List Sp → Nat → List Sp
  | [], _ => []
  | x :: l, k => each1 x k ++ eachL l k
end
mutual
def many1 : Sp → Nat
  | ⟨_, _, _, _, kids⟩ => 1 + manyL kids
/-- how many there are -/
def manyL : List Sp → Nat
  | [] => 0
  | x :: l => many1 x + manyL l
end
mutual
def kinds1 : Sp → Bool
  | ⟨k, _, _, _, kids⟩ => decide (k ≤ 6) && kindsL kids
/-- are all kinds those that there are? -/
def kindsL : List Sp → Bool
  | [] => true
  | x :: l => kinds1 x && kindsL l
end
mutual
theorem snd_kinds1 : ∀ (x : Sp) (d : Nat), snd1 x d = true → kinds1 x = true
  | ⟨k, t, u, v, kids⟩, d, h => by
    simp only [snd1, Bool.and_eq_true] at h
    obtain ⟨⟨⟨⟨h1, _⟩, h2⟩, _⟩, _⟩ := h
    simp only [kinds1, Bool.and_eq_true]
    refine ⟨h1, ?_⟩
    split at h2
    · simp only [Bool.and_eq_true] at h2
      exact snd_kindsL kids _ _ h2.2
    · cases kids with
      | nil => rfl
      | cons x l => simp at h2
theorem snd_kindsL : ∀ (l : List Sp) (d p : Nat), sndL l d p = true → kindsL l = true
  | [], _, _, _ => rfl
  | x :: l, d, p, h => by
    simp only [sndL, Bool.and_eq_true] at h
    simp only [kindsL, Bool.and_eq_true]
    exact ⟨snd_kinds1 x d h.1.1, snd_kindsL l d _ h.2⟩
end
theorem each_kind1 : ∀ (x : Sp) (k : Nat), (∀ (l : List Sp), l = x.kids → ∀ y ∈ eachL l k, y.kind = k) → ∀ y ∈ each1 x k, y.kind = k
  | ⟨q, t, u, v, kids⟩, k, ih, y, hy => by
    simp only [each1] at hy
    split at hy
    · rename_i hq
      rcases List.mem_cons.1 hy with rfl | hy
      · exact hq
      · exact ih kids rfl y hy
    · exact ih kids rfl y hy
mutual
theorem each1_kind : ∀ (x : Sp) (k : Nat), ∀ y ∈ each1 x k, y.kind = k
  | ⟨q, t, u, v, kids⟩, k, y, hy => by
    have ih := eachL_kind kids k
    simp only [each1] at hy
    split at hy
    · rename_i hq
      rcases List.mem_cons.1 hy with rfl | hy
      · exact hq
      · exact ih y hy
    · exact ih y hy
/-- they are of the kind -/
theorem eachL_kind : ∀ (l : List Sp) (k : Nat), ∀ y ∈ eachL l k, y.kind = k
  | [], _, _, hy => by simp [eachL] at hy
  | x :: l, k, y, hy => by
    simp only [eachL, List.mem_append] at hy
    rcases hy with hy | hy
    · exact each1_kind x k y hy
    · exact eachL_kind l k y hy
end
def sum7 (f : Nat → Nat) : Nat := f 0 + f 1 + f 2 + f 3 + f 4 + f 5 + f 6
mutual
theorem each_sum1 : ∀ (x : Sp), kinds1 x = true → sum7 (fun k => (each1 x k).length) = many1 x
  | ⟨q, t, u, v, kids⟩, h => by
    simp only [kinds1, Bool.and_eq_true, decide_eq_true_eq] at h
    have ih := each_sumL kids h.2
    have e : ∀ k, (each1 ⟨q, t, u, v, kids⟩ k).length = (if q = k then 1 else 0) + (eachL kids k).length := fun k => by
      simp only [each1]; split <;> simp; omega
    simp only [sum7, e, many1] at *
    rw [← ih]
    have hq : q = 0 ∨ q = 1 ∨ q = 2 ∨ q = 3 ∨ q = 4 ∨ q = 5 ∨ q = 6 := by omega
    rcases hq with rfl | rfl | rfl | rfl | rfl | rfl | rfl <;> simp <;> omega
/-- those of all kinds are all there are -/
theorem each_sumL : ∀ (l : List Sp), kindsL l = true → sum7 (fun k => (eachL l k).length) = manyL l
  | [], _ => rfl
  | x :: l, h => by
    simp only [kindsL, Bool.and_eq_true] at h
    have h1 := each_sum1 x h.1
    have h2 := each_sumL l h.2
    simp only [sum7, eachL, manyL, List.length_append] at *
    omega
end
mutual
theorem each_none1 : ∀ (x : Sp), kinds1 x = true → each1 x 7 = []
  | ⟨q, t, u, v, kids⟩, h => by
    simp only [kinds1, Bool.and_eq_true, decide_eq_true_eq] at h
    simp only [each1]
    rw [if_neg (by omega)]
    exact each_noneL kids h.2
theorem each_noneL : ∀ (l : List Sp), kindsL l = true → eachL l 7 = []
  | [], _ => rfl
  | x :: l, h => by
    simp only [kindsL, Bool.and_eq_true] at h
    simp only [eachL, each_none1 x h.1, each_noneL l h.2, List.append_nil]
end
theorem kinds_spans (s : Bs) : kindsL (spansOf s) = true := snd_kindsL _ _ _ (sound_spans s)
/-- the faults of a state begin with those of the one ahead -/
theorem faults_top (st : Pst) (g : Rw → Rw) : (st.top g).faults = st.faults := rfl
def Pre (a b : Pst) : Prop := a.faults <+: b.faults
theorem Pre.refl (a : Pst) : Pre a a := List.prefix_refl _
theorem Pre.trans {a b c : Pst} (h : Pre a b) (h2 : Pre b c) : Pre a c := List.IsPrefix.trans h h2
theorem Pre.tell (st : Pst) (a f : Nat) : Pre st (st.tell a f) := List.prefix_append _ _
theorem Pre.drop1 (st : Pst) : Pre st st.drop1 := by
  unfold Pst.drop1
  split
  · exact List.prefix_append _ _
  · exact Pre.refl _
theorem Pre.dropN : ∀ (n : Nat) (st : Pst), Pre st (st.dropN n)
  | 0, st => Pre.refl st
  | n + 1, st => (Pre.drop1 st).trans (Pre.dropN n _)
theorem Pre.fin (st : Pst) (n : Nat) : Pre st (st.fin n) := by
  have h := Pre.dropN (st.fs.length - 1 - n) st
  unfold Pst.fin Pst.shut
  split
  · exact h
  · exact h
theorem Pre.between (st : Pst) (s : Bs) (i : Nat) (a b : Bs) (asf : Bs → Sp ⊕ Nat) : Pre st (st.between s i a b asf).1 := by
  unfold Pst.between
  split
  · exact Pre.tell (st.write a) _ _
  · split
    · exact Pre.tell (st.write _) _ _
    · exact Pre.refl st
theorem Pre.mark (st : Pst) (s : Bs) (i k : Nat) : Pre st (st.mark s i k) := by
  unfold Pst.mark
  split
  · exact Pre.fin _ _
  · split
    · exact Pre.refl st
    · split
      · exact Pre.tell (st.write _) _ _
      · exact Pre.refl st
theorem Pre.step (st : Pst) (s : Bs) (i : Nat) : Pre st (st.step s i).1 := by
  unfold Pst.step
  split
  · exact Pre.refl st
  split
  · exact Pre.between _ _ _ _ _ _
  split
  · exact Pre.between _ _ _ _ _ _
  split
  · exact Pre.between _ _ _ _ _ _
  split
  · simp only
    split
    · exact Pre.refl st
    · exact Pre.tell (st.write _) _ _
  split
  · exact Pre.fin _ _
  split
  · exact Pre.mark _ _ _ _
  split
  · exact Pre.mark _ _ _ _
  · exact Pre.refl st
theorem Pre.run (s : Bs) : ∀ (n i : Nat) (st : Pst), Pre st (runP s n i st)
  | 0, _, st => Pre.refl st
  | n + 1, i, st => by
    rw [runP]
    split
    · exact (Pre.step st s i).trans (Pre.run s n _ _)
    · exact Pre.refl st
/-- code that does not end is the first fault -/
theorem code_open {w : Bs} (hw : (96 : UInt8) ∉ w) : ∃ l, faultsAt (96 :: w) = (0, 7) :: l := by
  have h0 : (0 : Nat) < (96 :: w).length := by simp
  have hst : Pst.first.step (96 :: w) 0 = ((Pst.first.write [96]).tell 0 7, 1) := by
    rw [step_code Pst.first rfl]
    unfold Pst.between
    rw [next_nowhere (by simpa using hw)]
    rfl
  have e : runP (96 :: w) (96 :: w).length 0 Pst.first = runP (96 :: w) w.length 1 ((Pst.first.write [96]).tell 0 7) := by
    rw [List.length_cons, runP, if_pos (by simp), hst]
  have h1 : Pre ((Pst.first.write [96]).tell 0 7) (endP (96 :: w)) := by
    unfold endP
    rw [e]
    exact (Pre.run _ _ _ _).trans (Pre.dropN _ _)
  obtain ⟨t, ht⟩ := h1
  exact ⟨t, ht.symm⟩
end Go.Bd
namespace Go.Bd
/-- a text asf it is written -/
def esc : Bs → Bs
  | [] => []
  | c :: l => if escB c = true then 92 :: c :: esc l else c :: esc l
mutual
/-- a span asf it is written -/
def put1 : Sp → Option Bs
  | ⟨k, t, u, v, kids⟩ =>
    if k = 0 then some (esc t)
    else if k = 1 then (putL kids).map fun b => 42 :: (b ++ [42])
    else if k = 2 then (putL kids).map fun b => 95 :: (b ++ [95])
    else if k = 3 then some (96 :: (t ++ [96]))
    else if k = 4 then some (60 :: 60 :: (t ++ [62, 62]))
    else if k = 5 then (if parseB (textL t u v) = some (t, u, v) then some (40 :: 40 :: (textL t u v ++ [41, 41])) else none)
    else if k = 6 then (putL kids).map fun b => 94 :: 91 :: (b ++ [93])
    else none
/-- spans asf they are written -/
def putL : List Sp → Option Bs
  | [] => some []
  | x :: l => (put1 x).bind fun a => (putL l).map fun b => a ++ b
end
mutual
def same1 : Sp → Sp → Bool
  | ⟨k, t, u, v, kids⟩, ⟨k', t', u', v', kids'⟩ => k == k' && (t == t' && (u == u' && (v == v' && sameL kids kids')))
/-- are spans the same? -/
def sameL : List Sp → List Sp → Bool
  | [], [] => true
  | x :: l, y :: m => same1 x y && sameL l m
  | _, _ => false
end
/-- the text of spans, if they have one -/
def textOf (l : List Sp) : Option Bs :=
  match putL l with
  | none => none
  | some s => if faultsAt s = [] ∧ sameL (spansOf s) l = true then some s else none
theorem textOf_back {l : List Sp} {t : Bs} (h : textOf l = some t) : faultsAt t = [] ∧ sameL (spansOf t) l = true := by
  unfold textOf at h
  split at h
  · cases h
  · split at h
    · rename_i hc; cases h; exact hc
    · cases h
theorem putL_one (x : Sp) : putL [x] = put1 x := by
  simp only [putL]
  cases put1 x with
  | none => rfl
  | some a => simp
theorem esc_len : ∀ l : Bs, (esc l).length ≤ 2 * l.length
  | [] => Nat.zero_le _
  | c :: l => by
    have := esc_len l
    unfold esc
    split <;> simp only [List.length_cons] <;> omega
theorem plain_or (c : UInt8) : plainC c = !escB c := rfl
theorem step_esc {s : Bs} {i : Nat} (st : Pst) (hi : i + 1 < s.length) (h : s.getD i 0 = 92) (he : escB (s.getD (i + 1) 0) = true) : st.step s i = (st.write [s.getD (i + 1) 0], i + 2) := by
  unfold Pst.step
  rw [if_pos ⟨h, hi, he⟩]
/-- a text that was escaped is text -/
theorem R_esc : ∀ (w : Bs) {s pre suf : Bs} {i : Nat} {st : Pst}, Inv st i → s = pre ++ (esc w ++ suf) → i = pre.length → R s i st = R s (i + (esc w).length) (st.write w)
  | [], s, pre, suf, i, st, _, _, _ => by simp [esc, write_nil]
  | c :: w, s, pre, suf, i, st, hI, hs, hi => by
    subst hi
    by_cases he : escB c = true
    · have e : esc (c :: w) = 92 :: c :: esc w := by rw [esc, if_pos he]
      rw [e] at hs ⊢
      have g0 : s.getD pre.length 0 = 92 := by rw [hs, List.cons_append]; exact at_mid _ _ _
      have g1 : s.getD (pre.length + 1) 0 = c := by rw [hs, List.cons_append, List.cons_append]; exact at_next _ _ _ _
      have hlen : pre.length + 1 < s.length := by rw [hs]; simp
      rw [R_step hI (by omega), step_esc st hlen g0 (by rw [g1]; exact he), g1]
      simp only
      rw [R_esc w (s := s) (pre := pre ++ [92, c]) (suf := suf) (((hI.write [c])).more (by simp)) (by rw [hs]; simp) (by simp), write_write]
      simp only [List.length_cons]
      congr 1
      omega
    · have e : esc (c :: w) = c :: esc w := by rw [esc, if_neg he]
      rw [e] at hs ⊢
      have g0 : s.getD pre.length 0 = c := by rw [hs, List.cons_append]; exact at_mid _ _ _
      have hlen : pre.length < s.length := by rw [hs]; simp
      rw [R_step hI hlen, step_plain st hlen (by rw [g0, plain_or]; simpa using he), g0]
      simp only
      rw [R_esc w (s := s) (pre := pre ++ [c]) (suf := suf) (i := pre.length + 1) ((hI.write [c])) (by rw [hs]; simp) (by simp), write_write]
      simp only [List.length_cons]
      congr 1
      omega
theorem end_esc (w : Bs) : endP (esc w) = ⟨[⟨⟨[], w⟩, 0, [], 0⟩], []⟩ := by
  rw [endP_eq, R_esc w (pre := []) (suf := []) Inv.first (by simp) rfl, R_end (by simp)]
  exact end_first w
theorem spans_esc (w : Bs) : spansOf (esc w) = (if w = [] then [] else [txt w]) ∧ faultsAt (esc w) = [] := by
  unfold spansOf faultsAt
  rw [end_esc]
  refine ⟨?_, rfl⟩
  simp only [Rw.flush]
  split <;> rfl
/-- a text alone may always be written, if there is one -/
theorem text_one (w : Bs) : textOf [txt w] = if w = [] then none else some (esc w) := by
  obtain ⟨h1, h2⟩ := spans_esc w
  have e : putL [txt w] = some (esc w) := by rw [putL_one]; simp [txt, put1]
  unfold textOf
  rw [e]
  simp only [h1, h2, true_and]
  by_cases hw : w = []
  · rw [if_pos hw, if_pos hw]; simp [sameL]
  · rw [if_neg hw, if_neg hw, if_pos]
    simp [sameL, same1, txt]
mutual
theorem same1_eq : ∀ (x y : Sp), same1 x y = true ↔ x = y
  | ⟨k, t, u, v, kids⟩, ⟨k', t', u', v', kids'⟩ => by
    simp only [same1, Bool.and_eq_true, beq_iff_eq, Sp.mk.injEq, sameL_eq kids kids']
theorem sameL_eq : ∀ (l m : List Sp), sameL l m = true ↔ l = m
  | [], [] => by simp [sameL]
  | [], y :: m => by simp [sameL]
  | x :: l, [] => by simp [sameL]
  | x :: l, y :: m => by
    simp only [sameL, Bool.and_eq_true, same1_eq x y, sameL_eq l m, List.cons.injEq]
end
end Go.Bd
namespace Go.Proofs.YtgiiglcgfbnaoaaGreatDoor
open Go.RowKit Go.Bd
theorem Bld.later {B b : Nat} {l : Bs} {w w' : World} (h : Bld B b l w) (hb : Below w.heap.size w w') : Bld B b l w' := by
  have st : ∀ p, Lib.BuilderAt 52 5 B b p (Lib.byteCells l) w → Lib.BuilderAt 52 5 B b p (Lib.byteCells l) w' := fun p h => by
    obtain ⟨h1, v, h2, h3, h4⟩ := h
    exact ⟨h1, v, (hb.block b (Array.getElem?_eq_some_iff.1 h2).1).trans h2, (Chg.below hb (fun _ => False)).owns h3 (fun _ _ h => h), h4⟩
  rcases h with h | h
  · exact .inl (st _ h)
  · exact .inr (st _ h)
theorem Bld.lt {B b : Nat} {l : Bs} {w : World} (h : Bld B b l w) : B ≤ b ∧ b < w.heap.size := by
  rcases h with h | h
  · exact ⟨h.1, h.lt⟩
  · exact ⟨h.1, h.lt⟩
theorem Bld.fresh (w : World) : Bld w.heap.size w.heap.size [] (w.alloc (.cells #[.pointer none, .slice none 0 0] 52)) := Lib.fresh_isBuilder _ _ _
end Go.Proofs.YtgiiglcgfbnaoaaGreatDoor
namespace Go.Bd
open Go.RowKit
/-- a span's place and what its cells hold, asf the walk wants it -/
theorem Forest.at {w : World} {F : Nat → Prop} {A : Option Addr} {c n : Nat} {l : List Sp} (h : Forest w F (.slice A n c) l) {j : Nat} {x : Sp} (hx : l[j]? = some x) : ∃ b off kA kc, A = some ⟨b, off, none⟩ ∧ F b ∧ Forest w F (.slice kA x.kids.length kc) x.kids ∧
    w.cell? ⟨b, off + j * 5, none⟩ = some (.int .u8 (x.kind : Int)) ∧ w.cell? ⟨b, off + j * 5 + 1, none⟩ = some (.string ⟨x.text.toArray⟩) ∧ w.cell? ⟨b, off + j * 5 + 2, none⟩ = some (.string ⟨x.sub.toArray⟩) ∧ w.cell? ⟨b, off + j * 5 + 3, none⟩ = some (.string ⟨x.see.toArray⟩) ∧ w.cell? ⟨b, off + j * 5 + 4, none⟩ = some (.slice kA x.kids.length kc) := by
  obtain ⟨A', c', e, _, hh⟩ := h.form
  injection e with e1 e2 e3
  subst e1
  obtain ⟨b, off, kv, h1, h2, h3, h4⟩ := hh j x hx
  obtain ⟨kA, kc, rfl, _⟩ := h3.form
  exact ⟨b, off, kA, kc, h1, h2, h3, h4⟩
theorem Forest.len {w : World} {F : Nat → Prop} {v : Value} {l : List Sp} (h : Forest w F v l) : ∃ A c, v = .slice A l.length c ∧ l.length ≤ c := by
  obtain ⟨A, c, e, hc, _⟩ := h.form
  exact ⟨A, c, e, hc⟩
theorem many_get : ∀ {l : List Sp} {j : Nat} {x : Sp}, l[j]? = some x → 1 + manyL x.kids ≤ manyL l
  | [], _, _, h => by simp at h
  | y :: l, 0, x, h => by
    simp at h
    subst h
    obtain ⟨k, t, u, v, ks⟩ := y
    simp only [manyL, many1]; omega
  | y :: l, j + 1, x, h => by
    have := many_get (l := l) (j := j) (by simpa using h)
    simp only [manyL]; omega
theorem many_len : ∀ l : List Sp, l.length ≤ manyL l
  | [] => Nat.zero_le _
  | ⟨k, t, u, v, ks⟩ :: l => by
    have := many_len l
    simp only [manyL, many1, List.length_cons]; omega
theorem say1_eq (x : Sp) : say1 x = if x.kind = 0 ∨ x.kind = 3 ∨ x.kind = 4 ∨ x.kind = 5 then x.text else if x.kind = 1 ∨ x.kind = 2 then sayL x.kids else [] := by
  obtain ⟨k, t, u, v, ks⟩ := x
  simp only [say1]
theorem sayL_take {l : List Sp} {k : Nat} {x : Sp} (h : l[k]? = some x) : sayL (l.take (k + 1)) = sayL (l.take k) ++ say1 x := by
  rw [List.take_add_one, h, sayL_app]
  simp [sayL]
theorem sayL_le {l : List Sp} {k : Nat} {x : Sp} (h : l[k]? = some x) : (sayL (l.take k)).length + (say1 x).length ≤ (sayL l).length := by
  have e : l = l.take (k + 1) ++ l.drop (k + 1) := (List.take_append_drop _ _).symm
  conv => rhs; rw [e, sayL_app, sayL_take h]
  simp only [List.length_append]; omega
end Go.Bd
namespace Go.Proofs.YtgiiglcgfbnaoaaGreatDoor
open Go.RowKit Go.Bd
set_option maxRecDepth 100000 in
set_option maxHeartbeats 2000000 in
theorem say_any : ∀ (N : Nat) (l : List Sp), manyL l ≤ N → manyL l ≤ 1000000000 → ∀ (v : Value) (w : World) (B b : Nat) (acc : Bs), Forest w (· < B) v l → Bld B b acc w → acc.length + (sayL l).length ≤ 1000000000000 →
    Calls Tryz.prog 44 #[.pointer (some ⟨b, 0, none⟩), v] w fun e w' => e = .returned (.tuple #[]) ∧ Bld B b (acc ++ sayL l) w' ∧ Below B w w' := by
  intro N
  induction N with
  | zero =>
    intro l hN hm v w B b acc hF hI hL
    have hl : l = [] := List.eq_nil_of_length_eq_zero (by have := many_len l; omega)
    subst hl
    obtain ⟨A, c, rfl, hc⟩ := hF.len
    have HI := Lib.hid hI
    clear hF hI
    go_enter Tryz.func44, Tryz.ntmps44
    go_wp2
    go_loop [8] (fun i => i = .int .i64 0) (fun _ => 0)
    case atStart => rfl
    case round =>
      obtain rfl := hrel
      go_wp2
      go_end0
      exact ⟨rfl, by simpa [sayL] using HI.out, Below.refl _ _⟩
  | succ N ih =>
    intro l hN hm v w B b acc hF hI hL
    obtain ⟨A, c, rfl, hc⟩ := hF.len
    have hlm := many_len l
    have HF := Lib.hid hF
    have HI := Lib.hid hI
    have HIH := Lib.hid ih
    obtain ⟨hbB, hbw⟩ := hI.lt
    clear hF hI ih
    obtain ⟨n, hn⟩ : ∃ n, l.length = n := ⟨_, rfl⟩
    have HN := Lib.hid hn
    simp only [hn] at hc hlm HF ⊢
    clear hn
    go_enter Tryz.func44, Tryz.ntmps44
    go_wp2
    go_loopg [8] n (fun q i wr => ∃ k : Nat, k + q = n ∧ i = .int .i64 (k : Int) ∧ Hid (Bld B b (acc ++ sayL (l.take k)) wr ∧ Below B w wr))
    case atStart => exact ⟨0, by omega, rfl, by simpa [sayL] using HI.out, Below.refl _ _⟩
    case round =>
      obtain ⟨k, hk, rfl, HR⟩ := hrel
      by_cases hlt : k < n
      · obtain ⟨x, hx⟩ : ∃ x, l[k]? = some x := ⟨_, List.getElem?_eq_getElem (by rw [HN.out]; exact hlt)⟩
        obtain ⟨b1, off, kA, kc, rfl, hb1, hkF, p0, p1, p2, p3, p4⟩ := HF.out.at hx
        have hbl := HR.out.2
        replace p0 := (hbl.cell (p := ⟨b1, off + k * 5, none⟩) hb1).trans p0
        replace p1 := (hbl.cell (p := ⟨b1, off + k * 5 + 1, none⟩) hb1).trans p1
        replace p2 := (hbl.cell (p := ⟨b1, off + k * 5 + 2, none⟩) hb1).trans p2
        replace p3 := (hbl.cell (p := ⟨b1, off + k * 5 + 3, none⟩) hb1).trans p3
        replace p4 := (hbl.cell (p := ⟨b1, off + k * 5 + 4, none⟩) hb1).trans p4
        have hgt := many_get hx
        have hsl := sayL_le hx
        have HTK := Lib.hid (sayL_take hx)
        have HKF := Lib.hid (hkF.under hbl (fun _ h => h))
        have HS1 := Lib.hid (say1_eq x)
        clear hx hkF hbl
        have hrb := HR.out.2.size
        rcases (show x.kind = 0 ∨ x.kind = 3 ∨ x.kind = 4 ∨ x.kind = 5 ∨ x.kind = 1 ∨ x.kind = 2 ∨ (x.kind ≠ 0 ∧ x.kind ≠ 3 ∧ x.kind ≠ 4 ∧ x.kind ≠ 5 ∧ x.kind ≠ 1 ∧ x.kind ≠ 2) by omega) with h0 | h0 | h0 | h0 | h0 | h0 | h0
        · replace p0 : wr.cell? ⟨b1, off + k * 5, none⟩ = some (.int .u8 0) := by rw [p0, h0]; rfl
          have e1 : say1 x = x.text := by rw [HS1.out, if_pos (by omega)]
          have hx1 : (say1 x).length = x.text.length := by rw [e1]
          have E1 := Lib.hid e1
          clear e1 h0
          go_wp2_with fail
          refine (bld_write B b (acc ++ sayL (l.take k)) ⟨x.text.toArray⟩ _ (HR.out.1.later ((Below.refl _ _).alloc (Nat.le_refl _) _)) (by rw [List.length_append, size_mk]; omega) (by simp; omega)).mono ?_
          rintro e w2 ⟨rfl, hI2, hb2⟩
          have HI2 := Lib.hid hI2
          have HB2 := Lib.hid ((HR.out.2.alloc (by omega) _).trans hb2)
          clear hI2 hb2
          go_wp2
          go_roundg (gk - 1)
          case measure => omega
          case rel => exact ⟨k + 1, by omega, by go_num, by rw [HTK.out, E1.out, ← List.append_assoc]; exact HI2.out, HB2.out⟩
        · replace p0 : wr.cell? ⟨b1, off + k * 5, none⟩ = some (.int .u8 3) := by rw [p0, h0]; rfl
          have e1 : say1 x = x.text := by rw [HS1.out, if_pos (by omega)]
          have hx1 : (say1 x).length = x.text.length := by rw [e1]
          have E1 := Lib.hid e1
          clear e1 h0
          go_wp2_with fail
          refine (bld_write B b (acc ++ sayL (l.take k)) ⟨x.text.toArray⟩ _ (HR.out.1.later ((Below.refl _ _).alloc (Nat.le_refl _) _)) (by rw [List.length_append, size_mk]; omega) (by simp; omega)).mono ?_
          rintro e w2 ⟨rfl, hI2, hb2⟩
          have HI2 := Lib.hid hI2
          have HB2 := Lib.hid ((HR.out.2.alloc (by omega) _).trans hb2)
          clear hI2 hb2
          go_wp2
          go_roundg (gk - 1)
          case measure => omega
          case rel => exact ⟨k + 1, by omega, by go_num, by rw [HTK.out, E1.out, ← List.append_assoc]; exact HI2.out, HB2.out⟩
        · replace p0 : wr.cell? ⟨b1, off + k * 5, none⟩ = some (.int .u8 4) := by rw [p0, h0]; rfl
          have e1 : say1 x = x.text := by rw [HS1.out, if_pos (by omega)]
          have hx1 : (say1 x).length = x.text.length := by rw [e1]
          have E1 := Lib.hid e1
          clear e1 h0
          go_wp2_with fail
          refine (bld_write B b (acc ++ sayL (l.take k)) ⟨x.text.toArray⟩ _ (HR.out.1.later ((Below.refl _ _).alloc (Nat.le_refl _) _)) (by rw [List.length_append, size_mk]; omega) (by simp; omega)).mono ?_
          rintro e w2 ⟨rfl, hI2, hb2⟩
          have HI2 := Lib.hid hI2
          have HB2 := Lib.hid ((HR.out.2.alloc (by omega) _).trans hb2)
          clear hI2 hb2
          go_wp2
          go_roundg (gk - 1)
          case measure => omega
          case rel => exact ⟨k + 1, by omega, by go_num, by rw [HTK.out, E1.out, ← List.append_assoc]; exact HI2.out, HB2.out⟩
        · replace p0 : wr.cell? ⟨b1, off + k * 5, none⟩ = some (.int .u8 5) := by rw [p0, h0]; rfl
          have e1 : say1 x = x.text := by rw [HS1.out, if_pos (by omega)]
          have hx1 : (say1 x).length = x.text.length := by rw [e1]
          have E1 := Lib.hid e1
          clear e1 h0
          go_wp2_with fail
          refine (bld_write B b (acc ++ sayL (l.take k)) ⟨x.text.toArray⟩ _ (HR.out.1.later ((Below.refl _ _).alloc (Nat.le_refl _) _)) (by rw [List.length_append, size_mk]; omega) (by simp; omega)).mono ?_
          rintro e w2 ⟨rfl, hI2, hb2⟩
          have HI2 := Lib.hid hI2
          have HB2 := Lib.hid ((HR.out.2.alloc (by omega) _).trans hb2)
          clear hI2 hb2
          go_wp2
          go_roundg (gk - 1)
          case measure => omega
          case rel => exact ⟨k + 1, by omega, by go_num, by rw [HTK.out, E1.out, ← List.append_assoc]; exact HI2.out, HB2.out⟩
        · replace p0 : wr.cell? ⟨b1, off + k * 5, none⟩ = some (.int .u8 1) := by rw [p0, h0]; rfl
          have e1 : say1 x = sayL x.kids := by rw [HS1.out, if_neg (by omega), if_pos (by omega)]
          have hx1 : (say1 x).length = (sayL x.kids).length := by rw [e1]
          have E1 := Lib.hid e1
          clear e1 h0
          go_wp2_with fail
          have hal := (Below.refl B wr).alloc (by omega) (.cells #[.int .u8 1, .string ⟨x.text.toArray⟩, .string ⟨x.sub.toArray⟩, .string ⟨x.see.toArray⟩, .slice kA x.kids.length kc] 33)
          refine (HIH.out x.kids (by omega) (by omega) _ _ B b (acc ++ sayL (l.take k)) (HKF.out.under hal (fun _ h => h)) (HR.out.1.later ((Below.refl _ _).alloc (Nat.le_refl _) _)) (by rw [List.length_append]; omega)).mono ?_
          clear hal
          rintro e w2 ⟨rfl, hI2, hb2⟩
          have HI2 := Lib.hid hI2
          have HB2 := Lib.hid ((HR.out.2.alloc (by omega) _).trans hb2)
          clear hI2 hb2
          go_wp2
          go_roundg (gk - 1)
          case measure => omega
          case rel => exact ⟨k + 1, by omega, by go_num, by rw [HTK.out, E1.out, ← List.append_assoc]; exact HI2.out, HB2.out⟩
        · replace p0 : wr.cell? ⟨b1, off + k * 5, none⟩ = some (.int .u8 2) := by rw [p0, h0]; rfl
          have e1 : say1 x = sayL x.kids := by rw [HS1.out, if_neg (by omega), if_pos (by omega)]
          have hx1 : (say1 x).length = (sayL x.kids).length := by rw [e1]
          have E1 := Lib.hid e1
          clear e1 h0
          go_wp2_with fail
          have hal := (Below.refl B wr).alloc (by omega) (.cells #[.int .u8 2, .string ⟨x.text.toArray⟩, .string ⟨x.sub.toArray⟩, .string ⟨x.see.toArray⟩, .slice kA x.kids.length kc] 33)
          refine (HIH.out x.kids (by omega) (by omega) _ _ B b (acc ++ sayL (l.take k)) (HKF.out.under hal (fun _ h => h)) (HR.out.1.later ((Below.refl _ _).alloc (Nat.le_refl _) _)) (by rw [List.length_append]; omega)).mono ?_
          clear hal
          rintro e w2 ⟨rfl, hI2, hb2⟩
          have HI2 := Lib.hid hI2
          have HB2 := Lib.hid ((HR.out.2.alloc (by omega) _).trans hb2)
          clear hI2 hb2
          go_wp2
          go_roundg (gk - 1)
          case measure => omega
          case rel => exact ⟨k + 1, by omega, by go_num, by rw [HTK.out, E1.out, ← List.append_assoc]; exact HI2.out, HB2.out⟩
        · obtain ⟨z0, z3, z4, z5, z1, z2⟩ := h0
          have e1 : say1 x = [] := by rw [HS1.out, if_neg (by omega), if_neg (by omega)]
          have E1 := Lib.hid e1
          have t0 : ((x.kind : Int) == 0) = false := by rw [beq_eq_false_iff_ne]; omega
          have t3 : ((x.kind : Int) == 3) = false := by rw [beq_eq_false_iff_ne]; omega
          have t4 : ((x.kind : Int) == 4) = false := by rw [beq_eq_false_iff_ne]; omega
          have t5 : ((x.kind : Int) == 5) = false := by rw [beq_eq_false_iff_ne]; omega
          have t1 : ((x.kind : Int) == 1) = false := by rw [beq_eq_false_iff_ne]; omega
          have t2 : ((x.kind : Int) == 2) = false := by rw [beq_eq_false_iff_ne]; omega
          clear e1
          go_wp2
          go_roundg (gk - 1)
          case measure => omega
          case rel => exact ⟨k + 1, by omega, by go_num, by rw [HTK.out, E1.out, List.append_nil]; exact HR.out.1.later ((Below.refl _ _).alloc (Nat.le_refl _) _), HR.out.2.alloc (by omega) _⟩
      · obtain rfl : k = n := by omega
        go_wp2
        go_end0
        refine ⟨rfl, ?_, HR.out.2⟩
        have h1 := HR.out.1
        rw [List.take_of_length_le (by rw [HN.out]; exact Nat.le_refl _)] at h1
        exact h1
theorem Plain_any (l : List Sp) (hm : manyL l ≤ 1000000000) (hL : (sayL l).length ≤ 1000000000) (v : Value) (w : World) (hF : Forest w (· < w.heap.size) v l) :
    Calls Tryz.prog 20 #[v] w fun e w' => e = .returned (.string ⟨(sayL l).toArray⟩) ∧ Below w.heap.size w w' := by
  obtain ⟨A, c, rfl, hc⟩ := hF.len
  have cs := say_any _ l (Nat.le_refl _) hm _ _ w.heap.size w.heap.size [] (hF.under ((Below.refl w.heap.size w).alloc (Nat.le_refl _) (.cells #[.pointer none, .slice none 0 0] 52)) (fun _ h => h)) (Bld.fresh w) (by simp; omega)
  generalize l.length = n at *
  clear hF
  go_enter Tryz.func20, Tryz.ntmps20
  go_wp2_with fail
  refine cs.mono ?_
  clear cs
  rintro e w2 ⟨rfl, hI2, hb2⟩
  have hbs := hb2.size
  have cb := bld_string w.heap.size w.heap.size _ w2 hI2 (by simp at hbs; omega)
  have HB2 := Lib.hid (((Below.refl w.heap.size w).alloc (Nat.le_refl _) (.cells #[.pointer none, .slice none 0 0] 52)).trans hb2)
  clear hI2 hb2 hbs
  go_wp2_with (go_at_call 29; refine cb.mono ?_; clear cb; rintro e w3 ⟨rfl, hb3⟩)
  go_ret
  exact ⟨rfl, HB2.out.trans hb3⟩
end Go.Proofs.YtgiiglcgfbnaoaaGreatDoor
namespace Go.Proofs.YtgiiglcgfbnaoaaGreatDoor
open Go.RowKit Go.Bd
/-- what is known of spans that are compared, so many at most -/
def SameOk (N : Nat) : Prop := ∀ (l m : List Sp), manyL l ≤ N → manyL l ≤ 1000000000 → ∀ (v u : Value) (w : World) (B : Nat), Forest w (· < B) v l → Forest w (· < B) u m → B ≤ w.heap.size →
    Calls Tryz.prog 30 #[v, u] w fun e w' => e = .returned (.bool (sameL l m)) ∧ Below B w w'
set_option maxRecDepth 100000 in
set_option maxHeartbeats 2000000 in
theorem same1_any {N : Nat} (ih : SameOk N) (x y : Sp) (hN : manyL x.kids ≤ N) (hm : manyL x.kids ≤ 1000000000) (v u : Value) (w : World) (B : Nat) (hF : Forest w (· < B) v x.kids) (hG : Forest w (· < B) u y.kids) (hB : B ≤ w.heap.size) :
    Calls Tryz.prog 54 #[.agg #[.int .u8 (x.kind : Int), .string ⟨x.text.toArray⟩, .string ⟨x.sub.toArray⟩, .string ⟨x.see.toArray⟩, v], .agg #[.int .u8 (y.kind : Int), .string ⟨y.text.toArray⟩, .string ⟨y.sub.toArray⟩, .string ⟨y.see.toArray⟩, u]] w fun e w' => e = .returned (.bool (same1 x y)) ∧ Below B w w' := by
  obtain ⟨A, c, rfl, hc⟩ := hF.len
  obtain ⟨A', c', rfl, hc'⟩ := hG.len
  have HF := Lib.hid hF
  have HG := Lib.hid hG
  have HS : Hid (same1 x y = (x.kind == y.kind && (x.text == y.text && (x.sub == y.sub && (x.see == y.see && sameL x.kids y.kids))))) := by
    unfold Hid
    obtain ⟨k, t, u, v, ks⟩ := x
    obtain ⟨k', t', u', v', ks'⟩ := y
    simp only [same1]
  have HI := Lib.hid ih
  clear hF hG ih
  go_enter Tryz.func54, Tryz.ntmps54
  go_wp2_with fail
  · have hkq : x.kind = y.kind := by omega
    have e1 : same1 x y = sameL x.kids y.kids := by
      rw [HS.out, hkq, ‹x.text = y.text›, ‹x.sub = y.sub›, ‹x.see = y.see›]
      simp only [beq_self_eq_true, Bool.true_and]
    have E1 := Lib.hid e1
    clear e1 hkq
    refine (HI.out x.kids y.kids hN hm _ _ _ B (HF.out.under (((Below.refl B w).alloc hB _).alloc (by simp; omega) _) (fun _ h => h)) (HG.out.under (((Below.refl B w).alloc hB _).alloc (by simp; omega) _) (fun _ h => h)) (by simp; omega)).mono ?_
    rintro e w2 ⟨rfl, hb2⟩
    have HB := Lib.hid ((((Below.refl B w).alloc hB _).alloc (by simp; omega) _).trans hb2)
    clear hb2
    go_wp2
    go_ret
    exact ⟨by rw [E1.out]; rfl, HB.out⟩
  all_goals
    have e1 : same1 x y = false := by
      rw [HS.out]
      have hk : (x.kind == y.kind) = decide ((x.kind : Int) = (y.kind : Int)) := by
        rw [Bool.eq_iff_iff]; simp only [beq_iff_eq, decide_eq_true_eq]; omega
      rw [hk]
      simp only [*, decide_false, Bool.false_and, Bool.and_false, beq_self_eq_true, Bool.true_and, Bool.and_eq_false_iff, beq_eq_false_iff_ne, ne_eq, not_false_eq_true, true_or, or_true, decide_true]
    have E1 := Lib.hid e1
    clear e1
    go_ret
    exact ⟨by rw [E1.out]; rfl, ((Below.refl B w).alloc hB _).alloc (by simp; omega) _⟩
theorem cellAlloc {w : World} {a : Addr} {v : Value} (o : Obj) (h : w.cell? a = some v) : (w.alloc o).cell? a = some v :=
  (World.cell?_of_block (Below.heap_alloc w o a.block (World.block_lt_of_cell? w _ h))).trans h
set_option maxRecDepth 100000 in
set_option maxHeartbeats 2000000 in
theorem equal_any {N : Nat} (ih : ∀ M, M < N → SameOk M) (l m : List Sp) (hN : manyL l ≤ N) (hm : manyL l ≤ 1000000000) (v u : Value) (w : World) (B : Nat) (hF : Forest w (· < B) v l) (hG : Forest w (· < B) u m) (hB : B ≤ w.heap.size) :
    Calls Tryz.prog 53 #[v, u, .func (.func 54) #[] #[]] w fun e w' => e = .returned (.bool (sameL l m)) ∧ Below B w w' := by
  obtain ⟨A, c, rfl, hc⟩ := hF.len
  obtain ⟨A', c', rfl, hc'⟩ := hG.len
  have hlm := many_len l
  by_cases hln : l.length = m.length
  · have HF := Lib.hid hF
    have HG := Lib.hid hG
    have HI := Lib.hid ih
    rw [← hln] at HG hc' ⊢
    obtain ⟨n, hn⟩ : ∃ n, l.length = n := ⟨_, rfl⟩
    have HN := Lib.hid hn
    have HN' := Lib.hid (hln.symm.trans hn)
    simp only [hn] at hc hc' hlm HF HG ⊢
    clear hF hG ih hln hn
    have HD : Hid (∀ b, sameL l m = b ↔ (if b = true then l = m else l ≠ m)) := fun b => by
      cases b with
      | true => simp [sameL_eq]
      | false =>
        rw [← Bool.not_eq_true, sameL_eq]; simp
    go_enter Tryz.func53, Tryz.ntmps53
    go_wp2
    go_loopg [17] n (fun q i wr => ∃ k : Nat, k + q = n ∧ i = .int .i64 (k : Int) ∧ Hid (l.take k = m.take k ∧ Below B w wr))
    case atStart => exact ⟨0, by omega, rfl, rfl, Below.refl _ _⟩
    case round =>
      obtain ⟨k, hk, rfl, HR⟩ := hrel
      by_cases hlt : k < n
      · obtain ⟨x, hx⟩ : ∃ x, l[k]? = some x := ⟨_, List.getElem?_eq_getElem (by rw [HN.out]; exact hlt)⟩
        obtain ⟨y, hy⟩ : ∃ y, m[k]? = some y := ⟨_, List.getElem?_eq_getElem (by rw [HN'.out]; exact hlt)⟩
        obtain ⟨b1, off, kA, kc, rfl, hb1, hkF, p0, p1, p2, p3, p4⟩ := HF.out.at hx
        obtain ⟨b2, off2, kA2, kc2, rfl, hb2, hkG, q0, q1, q2, q3, q4⟩ := HG.out.at hy
        have hbl := HR.out.2
        have hrb := hbl.size
        replace p0 := (hbl.cell (p := ⟨b1, off + k * 5, none⟩) hb1).trans p0
        replace p1 := (hbl.cell (p := ⟨b1, off + k * 5 + 1, none⟩) hb1).trans p1
        replace p2 := (hbl.cell (p := ⟨b1, off + k * 5 + 2, none⟩) hb1).trans p2
        replace p3 := (hbl.cell (p := ⟨b1, off + k * 5 + 3, none⟩) hb1).trans p3
        replace p4 := (hbl.cell (p := ⟨b1, off + k * 5 + 4, none⟩) hb1).trans p4
        replace q0 := cellAlloc (.cells #[.int .u8 (x.kind : Int), .string ⟨x.text.toArray⟩, .string ⟨x.sub.toArray⟩, .string ⟨x.see.toArray⟩, .slice kA x.kids.length kc] 33) ((hbl.cell (p := ⟨b2, off2 + k * 5, none⟩) hb2).trans q0)
        replace q1 := cellAlloc (.cells #[.int .u8 (x.kind : Int), .string ⟨x.text.toArray⟩, .string ⟨x.sub.toArray⟩, .string ⟨x.see.toArray⟩, .slice kA x.kids.length kc] 33) ((hbl.cell (p := ⟨b2, off2 + k * 5 + 1, none⟩) hb2).trans q1)
        replace q2 := cellAlloc (.cells #[.int .u8 (x.kind : Int), .string ⟨x.text.toArray⟩, .string ⟨x.sub.toArray⟩, .string ⟨x.see.toArray⟩, .slice kA x.kids.length kc] 33) ((hbl.cell (p := ⟨b2, off2 + k * 5 + 2, none⟩) hb2).trans q2)
        replace q3 := cellAlloc (.cells #[.int .u8 (x.kind : Int), .string ⟨x.text.toArray⟩, .string ⟨x.sub.toArray⟩, .string ⟨x.see.toArray⟩, .slice kA x.kids.length kc] 33) ((hbl.cell (p := ⟨b2, off2 + k * 5 + 3, none⟩) hb2).trans q3)
        replace q4 := cellAlloc (.cells #[.int .u8 (x.kind : Int), .string ⟨x.text.toArray⟩, .string ⟨x.sub.toArray⟩, .string ⟨x.see.toArray⟩, .slice kA x.kids.length kc] 33) ((hbl.cell (p := ⟨b2, off2 + k * 5 + 4, none⟩) hb2).trans q4)
        have hgt := many_get hx
        have HX := Lib.hid hx
        have HY := Lib.hid hy
        have HKF := Lib.hid (hkF.under hbl (fun _ h => h))
        have HKG := Lib.hid (hkG.under hbl (fun _ h => h))
        have HS1 := Lib.hid (same1_eq x y)
        clear hx hy hkF hkG hbl
        go_wp2_with fail
        refine (same1_any (HI.out (manyL x.kids) (by omega)) x y (Nat.le_refl _) (by omega) _ _ _ B (HKF.out.under (((Below.refl B wr).alloc (by omega) _).alloc (by simp; omega) _) (fun _ h => h)) (HKG.out.under (((Below.refl B wr).alloc (by omega) _).alloc (by simp; omega) _) (fun _ h => h)) (by simp; omega)).mono ?_
        rintro e w2 ⟨rfl, hb2⟩
        have HB2 := Lib.hid ((((Below.refl B wr).alloc (by omega) _).alloc (by simp; omega) _).trans hb2)
        clear hb2
        cases hs : same1 x y with
        | true =>
          have HE := Lib.hid (HS1.out.1 hs)
          clear hs
          go_wp2
          go_roundg (gk - 1)
          case measure => omega
          case rel => exact ⟨k + 1, by omega, by go_num, by rw [List.take_add_one, List.take_add_one, HX.out, HY.out, HE.out, HR.out.1], HR.out.2.trans HB2.out⟩
        | false =>
          have HE : Hid (x ≠ y) := fun e => by rw [HS1.out.2 e] at hs; cases hs
          clear hs
          go_wp2
          go_ret
          refine ⟨?_, HR.out.2.trans HB2.out⟩
          have e1 : sameL l m = false := (HD.out false).2 (by
            rw [if_neg (by decide)]
            rintro rfl
            have h1 := HX.out
            rw [HY.out] at h1
            injection h1 with h1
            exact HE.out h1.symm)
          rw [e1]; rfl
      · obtain rfl : k = n := by omega
        go_wp2
        go_ret
        have e1 : sameL l m = true := (HD.out true).2 (by
          rw [if_pos rfl]
          have h1 := HR.out.1
          rw [List.take_of_length_le (by rw [HN.out]; exact Nat.le_refl _), List.take_of_length_le (by rw [HN'.out]; exact Nat.le_refl _)] at h1
          exact h1)
        exact ⟨by rw [e1]; rfl, HR.out.2⟩
  · have e1 : sameL l m = false := by
      rw [← Bool.not_eq_true, sameL_eq]
      rintro rfl
      exact hln rfl
    have E1 := Lib.hid e1
    have t1 : ((l.length : Int) != (m.length : Int)) = true := by rw [bne_iff_ne]; omega
    have t2 : (l.length != m.length) = true := by rw [bne_iff_ne]; exact hln
    clear hF hG ih e1
    go_enter Tryz.func53, Tryz.ntmps53
    go_wp2
    go_ret
    exact ⟨by rw [E1.out]; rfl, Below.refl _ _⟩
theorem same_step {N : Nat} (ih : ∀ M, M < N → SameOk M) : SameOk N := by
  intro l m hN hm v u w B hF hG hB
  have ce := equal_any ih l m hN hm v u w B hF hG hB
  generalize sameL l m = b at ce ⊢
  clear hF hG ih
  go_enter Tryz.func30, Tryz.ntmps30
  go_wp2_with fail
  refine ce.mono ?_
  clear ce
  rintro e w2 ⟨rfl, hb⟩
  have HB := Lib.hid hb
  clear hb
  go_wp2
  go_ret
  exact ⟨rfl, HB.out⟩
theorem same_any (N : Nat) : SameOk N := by
  induction N using Nat.strongRecOn with
  | _ N ih => exact same_step ih
end Go.Proofs.YtgiiglcgfbnaoaaGreatDoor
namespace Go.Proofs.YtgiiglcgfbnaoaaGreatDoor
open Go.RowKit Go.Bd
theorem make_spans (n : Nat) (w : World) (hn : n ≤ 1000000000) : (Instr.makeSlice 22 (.int .i64 n) (.int .i64 n)).run Tryz.prog w = .ok (.slice (some ⟨w.heap.size, 0, none⟩) n n) (w.alloc (.cells (madeCells #[.int .u8 0, .string ⟨#[]⟩, .string ⟨#[]⟩, .string ⟨#[]⟩, .slice none 0 0] (n * 5)) 33)) := by
  obtain ⟨i0, hi, hz0, hz1, hz2⟩ := info_parts span_info
  have h := run_make (P := Tryz.prog) w 22 33 i0 _ Tryz.underlying22 hi hz0 .i64 .i64 n n (by omega) (Int.le_refl _) (by rw [hz2]; omega) (by omega)
  rw [hz1] at h
  simpa [Value.cells] using h
theorem madeCells_size (z : Array Value) (n : Nat) : (madeCells z n).size = n := by simp [madeCells]
/-- what is known of spans that are copied, so many at most -/
def FreshOk (N : Nat) : Prop := ∀ (l : List Sp), manyL l ≤ N → manyL l ≤ 1000000000 → ∀ (v : Value) (w : World) (B : Nat), Forest w (· < B) v l → B ≤ w.heap.size →
    Calls Tryz.prog 46 #[v] w fun e w' => ∃ v', e = .returned v' ∧ Forest w' (fun b => w.heap.size ≤ b ∧ b < w'.heap.size) v' l ∧ Below w.heap.size w w'
/-- a copy so far: the row, and what stands in it -/
def Copied (w wr : World) (g n k : Nat) (l : List Sp) : Prop := ∃ cs kvs, Holds wr g tS cs ∧ cs.size = n * 5 ∧ kvs.length = k ∧ cs.toList.take (k * 5) = rowCells (l.take k) kvs ∧ (∀ (j : Nat) x kv, (l.take k)[j]? = some x → kvs[j]? = some kv → Forest wr (fun b => g < b ∧ b < wr.heap.size) kv x.kids) ∧ Below g w wr
theorem set5_take {cs : Array Value} {k n : Nat} (hk : k < n) (hz : cs.size = n * 5) (a b c d e : Value) :
    (((((cs.setIfInBounds (k * 5) a).setIfInBounds (k * 5 + 1) b).setIfInBounds (k * 5 + 2) c).setIfInBounds (k * 5 + 3) d).setIfInBounds (k * 5 + 4) e).toList.take ((k + 1) * 5) = cs.toList.take (k * 5) ++ [a, b, c, d, e] := by
  have h5 : k * 5 + 5 ≤ cs.size := by rw [hz]; have := Nat.mul_le_mul_right 5 (show k + 1 ≤ n from hk); omega
  apply List.ext_getElem?
  intro j
  by_cases h1 : j < k * 5
  · rw [List.getElem?_take_of_lt (by omega), List.getElem?_append_left (by rw [List.length_take, Array.length_toList]; omega), List.getElem?_take_of_lt h1]
    simp only [Array.getElem?_toList]
    rw [Array.getElem?_setIfInBounds_ne (by omega), Array.getElem?_setIfInBounds_ne (by omega), Array.getElem?_setIfInBounds_ne (by omega), Array.getElem?_setIfInBounds_ne (by omega), Array.getElem?_setIfInBounds_ne (by omega)]
  · have hlen : (cs.toList.take (k * 5)).length = k * 5 := by rw [List.length_take, Array.length_toList]; omega
    by_cases h2 : j < k * 5 + 5
    · rw [List.getElem?_take_of_lt (by omega), List.getElem?_append_right (by omega), hlen, Array.getElem?_toList]
      obtain ⟨i, rfl, hi⟩ : ∃ i, j = k * 5 + i ∧ i < 5 := ⟨j - k * 5, by omega, by omega⟩
      rw [Nat.add_sub_cancel_left]
      obtain rfl | rfl | rfl | rfl | rfl : i = 0 ∨ i = 1 ∨ i = 2 ∨ i = 3 ∨ i = 4 := by omega
      all_goals
        simp only [Array.getElem?_setIfInBounds, Array.size_setIfInBounds]
        repeat (first | rw [if_pos trivial] | rw [if_neg (by omega)] | rw [if_pos (by omega)])
        rfl
    · rw [List.getElem?_eq_none (by rw [List.length_take]; omega), List.getElem?_eq_none (by rw [List.length_append, hlen]; simp; omega)]
theorem copied_round {w wr w2 : World} {g n k : Nat} {l : List Sp} {x : Sp} {cs : Array Value} {kvs : List Value} {kv : Value} (hk : k < n) (hx : l[k]? = some x) (hgw : g < wr.heap.size) (hG2 : Holds w2 g tS cs) (hcz : cs.size = n * 5) (hkl : kvs.length = k) (htk : cs.toList.take (k * 5) = rowCells (l.take k) kvs)
    (hks : ∀ (j : Nat) x kv, (l.take k)[j]? = some x → kvs[j]? = some kv → Forest wr (fun b => g < b ∧ b < wr.heap.size) kv x.kids) (hbl : Below g w wr) (hb : Below wr.heap.size wr w2) (hf : Forest w2 (fun b => wr.heap.size + 1 ≤ b ∧ b < w2.heap.size) kv x.kids) :
    Copied w ((((((w2.setCell ⟨wr.heap.size, 4, none⟩ kv).setCell ⟨g, k * 5, none⟩ (.int .u8 (x.kind : Int))).setCell ⟨g, k * 5 + 1, none⟩ (strV x.text)).setCell ⟨g, k * 5 + 2, none⟩ (strV x.sub)).setCell ⟨g, k * 5 + 3, none⟩ (strV x.see)).setCell ⟨g, k * 5 + 4, none⟩ kv) g n (k + 1) l := by
  have hC : Chg w2 ((((((w2.setCell ⟨wr.heap.size, 4, none⟩ kv).setCell ⟨g, k * 5, none⟩ (.int .u8 (x.kind : Int))).setCell ⟨g, k * 5 + 1, none⟩ (strV x.text)).setCell ⟨g, k * 5 + 2, none⟩ (strV x.sub)).setCell ⟨g, k * 5 + 3, none⟩ (strV x.see)).setCell ⟨g, k * 5 + 4, none⟩ kv) (fun b => b = wr.heap.size ∨ b = g) :=
    Chg.step (Chg.step (Chg.step (Chg.step (Chg.step (Chg.step (Chg.refl w2 _) (fun _ _ e => .inl e)) (fun _ _ e => .inr e)) (fun _ _ e => .inr e)) (fun _ _ e => .inr e)) (fun _ _ e => .inr e)) (fun _ _ e => .inr e)
  have hG := (((((hG2.far (p := ⟨wr.heap.size, 4, none⟩) (by show g ≠ wr.heap.size; omega) kv).set (k * 5) (.int .u8 (x.kind : Int))).set (k * 5 + 1) (strV x.text)).set (k * 5 + 2) (strV x.sub)).set (k * 5 + 3) (strV x.see)).set (k * 5 + 4) kv
  have hsz := hC.size
  have hs2 := hb.size
  have e1 : l.take (k + 1) = l.take k ++ [x] := by rw [List.take_add_one, hx]; rfl
  have hlk : (l.take k).length = k := by rw [List.length_take]; have := (List.getElem?_eq_some_iff.1 hx).1; omega
  refine ⟨_, kvs ++ [kv], hG, by simp only [Array.size_setIfInBounds]; exact hcz, by simp [hkl], ?_, ?_, ?_⟩
  · rw [set5_take hk hcz, htk, e1, rowCells_snoc x kv (by rw [hkl, hlk])]; rfl
  · intro j y kw hy hkw
    rw [e1] at hy
    by_cases hj : j < k
    · rw [List.getElem?_append_left (by omega)] at hy
      rw [List.getElem?_append_left (by omega)] at hkw
      exact ((hks j y kw hy hkw).under hb (fun b h => h.2)).chg hC (fun b h => ⟨h.1, by omega⟩) (fun b h hs => by rcases hs with hs | hs <;> omega)
    · have hjk : j = k := by
        have := (List.getElem?_eq_some_iff.1 hy).1
        rw [List.length_append, hlk] at this; simp at this; omega
      subst hjk
      rw [List.getElem?_append_right (by omega), hlk, Nat.sub_self] at hy
      rw [List.getElem?_append_right (by omega), hkl, Nat.sub_self] at hkw
      simp only [List.getElem?_cons_zero, Option.some.injEq] at hy hkw
      subst hy; subst hkw
      exact hf.chg hC (fun b h => ⟨by omega, by omega⟩) (fun b h hs => by rcases hs with hs | hs <;> omega)
  · exact (hbl.trans (hb.mono (by omega))).trans (hC.toBelow (by omega) (fun b hs => by rcases hs with hs | hs <;> omega))
set_option maxRecDepth 100000 in
set_option maxHeartbeats 2000000 in
theorem fresh_step {N : Nat} (ih : ∀ M, M < N → FreshOk M) : FreshOk N := by
  intro l hN hm v w B hF hB
  obtain ⟨A, c, rfl, hcc⟩ := hF.len
  have hlm := many_len l
  have HF := Lib.hid hF
  have HIH := Lib.hid ih
  clear hF ih
  obtain ⟨n, hn⟩ : ∃ n, l.length = n := ⟨_, rfl⟩
  have HN := Lib.hid hn
  simp only [hn] at hcc hlm HF ⊢
  clear hn
  by_cases h0 : n = 0
  · subst h0
    have hl : l = [] := List.eq_nil_of_length_eq_zero HN.out
    have HL := Lib.hid hl
    clear hl
    go_enter Tryz.func46, Tryz.ntmps46
    go_wp2
    go_ret
    exact ⟨_, rfl, by rw [HL.out]; exact Forest.nil _ _, Below.refl _ _⟩
  · have hn0 : 0 < n := by omega
    have mf := make_spans n w (by omega)
    have t0 : ((n : Int) == 0) = false := by rw [beq_eq_false_iff_ne]; omega
    clear h0
    have hz := madeCells_size #[.int .u8 0, .string ⟨#[]⟩, .string ⟨#[]⟩, .string ⟨#[]⟩, .slice none 0 0] (n * 5)
    generalize madeCells #[.int .u8 0, .string ⟨#[]⟩, .string ⟨#[]⟩, .string ⟨#[]⟩, .slice none 0 0] (n * 5) = zc at mf hz
    have HZ := Lib.hid hz
    clear hz
    go_enter Tryz.func46, Tryz.ntmps46
    go_wp2
    clear mf
    go_loopg [14] n (fun q i wr => ∃ k : Nat, k + q = n ∧ i = .int .i64 (k : Int) ∧ Hid (Copied w wr w.heap.size n k l))
    case atStart => exact ⟨0, by omega, rfl, zc, [], Holds.new w _ _, HZ.out, rfl, by simp [rowCells], (fun j x kv h => by simp at h), (Below.refl _ _).alloc (Nat.le_refl _) _⟩
    case round =>
      obtain ⟨k, hk, rfl, HR⟩ := hrel
      obtain ⟨cs, kvs, hh, hcz, hkl, htk, hks, hbl⟩ := HR.out
      have hrb := hbl.size
      have hgw := hh.lt
      by_cases hlt : k < n
      · obtain ⟨x, hx⟩ : ∃ x, l[k]? = some x := ⟨_, List.getElem?_eq_getElem (by rw [HN.out]; exact hlt)⟩
        obtain ⟨b1, off, kA, kc, rfl, hb1, hkF, p0, p1, p2, p3, p4⟩ := HF.out.at hx
        have hblB := hbl.mono hB
        replace p0 := (hblB.cell (p := ⟨b1, off + k * 5, none⟩) hb1).trans p0
        replace p1 := (hblB.cell (p := ⟨b1, off + k * 5 + 1, none⟩) hb1).trans p1
        replace p2 := (hblB.cell (p := ⟨b1, off + k * 5 + 2, none⟩) hb1).trans p2
        replace p3 := (hblB.cell (p := ⟨b1, off + k * 5 + 3, none⟩) hb1).trans p3
        replace p4 := (hblB.cell (p := ⟨b1, off + k * 5 + 4, none⟩) hb1).trans p4
        have hgt := many_get hx
        have HX := Lib.hid hx
        have hal := (Below.refl wr.heap.size wr).alloc (Nat.le_refl _) (.cells #[.int .u8 (x.kind : Int), .string ⟨x.text.toArray⟩, .string ⟨x.sub.toArray⟩, .string ⟨x.see.toArray⟩, .slice kA x.kids.length kc] 33)
        have cf := HIH.out (manyL x.kids) (by omega) x.kids (Nat.le_refl _) (by omega) (.slice kA x.kids.length kc) _ B (hkF.under (hblB.trans (hal.mono (by omega))) (fun _ h => h)) (by simp; omega)
        have hS := Holds.new wr 33 #[.int .u8 (x.kind : Int), .string ⟨x.text.toArray⟩, .string ⟨x.sub.toArray⟩, .string ⟨x.see.toArray⟩, .slice kA x.kids.length kc]
        have HS := Lib.hid hS
        have HHR := Lib.hid hh
        have HAL := Lib.hid hal
        have HKS := Lib.hid hks
        have HTK := Lib.hid htk
        have HCZ := Lib.hid hcz
        have HKL := Lib.hid hkl
        have HBL := Lib.hid hbl
        clear hx hkF hblB hh hcz hkl htk hks hbl HR hS hal
        go_wp2_with fail
        refine cf.mono ?_
        clear cf
        rintro e w2 ⟨v', rfl, hf2, hb2⟩
        obtain ⟨vA, vc, rfl, _⟩ := hf2.len
        have hS2 := hb2.block wr.heap.size (by simp)
        have hS3 : Holds w2 wr.heap.size 33 #[.int .u8 (x.kind : Int), .string ⟨x.text.toArray⟩, .string ⟨x.sub.toArray⟩, .string ⟨x.see.toArray⟩, .slice kA x.kids.length kc] := hS2.trans HS.out
        have hG2 : Holds w2 w.heap.size 33 cs := (hb2.block w.heap.size (by simp; omega)).trans ((HAL.out.block w.heap.size hgw).trans HHR.out)
        have a0 := hS3.cell 0
        have a1 := hS3.cell 1
        have a2 := hS3.cell 2
        have a3 := hS3.cell 3
        have a4 := hS3.cell 4
        have f4 := hS3.free 4
        have hk5 : k * 5 + 4 < n * 5 := by have := Nat.mul_le_mul_right 5 (show k + 1 ≤ n by omega); omega
        obtain ⟨z0, hz0⟩ : ∃ z, cs[k * 5]? = some z := ⟨_, Array.getElem?_eq_getElem (by rw [HCZ.out]; omega)⟩
        have g0 := (hG2.cell (k * 5)).trans hz0
        have e0 := hG2.free (k * 5)
        obtain ⟨z1, hz1⟩ : ∃ z, cs[k * 5 + 1]? = some z := ⟨_, Array.getElem?_eq_getElem (by rw [HCZ.out]; omega)⟩
        have g1 := (hG2.cell (k * 5 + 1)).trans hz1
        have e1 := hG2.free (k * 5 + 1)
        obtain ⟨z2, hz2⟩ : ∃ z, cs[k * 5 + 2]? = some z := ⟨_, Array.getElem?_eq_getElem (by rw [HCZ.out]; omega)⟩
        have g2 := (hG2.cell (k * 5 + 2)).trans hz2
        have e2 := hG2.free (k * 5 + 2)
        obtain ⟨z3, hz3⟩ : ∃ z, cs[k * 5 + 3]? = some z := ⟨_, Array.getElem?_eq_getElem (by rw [HCZ.out]; omega)⟩
        have g3 := (hG2.cell (k * 5 + 3)).trans hz3
        have e3 := hG2.free (k * 5 + 3)
        obtain ⟨z4, hz4⟩ : ∃ z, cs[k * 5 + 4]? = some z := ⟨_, Array.getElem?_eq_getElem (by rw [HCZ.out]; omega)⟩
        have g4 := (hG2.cell (k * 5 + 4)).trans hz4
        have e4 := hG2.free (k * 5 + 4)
        have HF2 := Lib.hid hf2
        have HB2 := Lib.hid hb2
        have HG2 := Lib.hid hG2
        clear hz0 hz1 hz2 hz3 hz4
        have HS3 := Lib.hid hS3
        clear hf2 hb2 hS2 hS3 hG2
        go_wp2
        go_roundg (gk - 1)
        case measure => omega
        case rel =>
          refine ⟨k + 1, by omega, by go_num, ?_⟩
          have hff := HF2.out
          rw [World.size_alloc] at hff
          exact copied_round hlt HX.out hgw HG2.out HCZ.out HKL.out HTK.out HKS.out HBL.out (HAL.out.trans (HB2.out.mono (by simp))) hff
      · obtain rfl : k = n := by omega
        have hl : l.take k = l := List.take_of_length_le (by rw [HN.out]; exact Nat.le_refl _)
        rw [hl] at htk hks
        have hro : wr.ownsRow w.heap.size tS 5 (.slice (some ⟨w.heap.size, 0, none⟩) k k) l.length (rowCells l kvs) := by
          rw [HN.out]
          refine ⟨?_, .inr ⟨w.heap.size, k, cs, rfl, Nat.le_refl _, hh, Nat.le_refl _, by unfold maxLen; omega, hcz, htk⟩⟩
          rw [← htk, List.length_take, Array.length_toList, hcz, Nat.min_self]
        have hfo : Forest wr (fun b => w.heap.size ≤ b ∧ b < wr.heap.size) (.slice (some ⟨w.heap.size, 0, none⟩) k k) l :=
          SpanRow.forest (F := fun b => w.heap.size < b ∧ b < wr.heap.size) ⟨kvs, by rw [hkl, HN.out], hro, fun j x kv h1 h2 => (hks j x kv h1 h2)⟩ (fun b h => ⟨by omega, h.2⟩) (fun b h => by
            simp only [Value.ownBlock, Option.some.injEq] at h
            subst h
            exact ⟨Nat.le_refl _, hgw⟩)
        have HFO := Lib.hid hfo
        have HBL := Lib.hid hbl
        clear hh hcz hkl htk hks hbl HR hl hro hfo
        go_wp2
        go_ret
        exact ⟨_, rfl, HFO.out, HBL.out⟩
theorem fresh_any (N : Nat) : FreshOk N := by
  induction N using Nat.strongRecOn with
  | _ N ih => exact fresh_step ih
end Go.Proofs.YtgiiglcgfbnaoaaGreatDoor
