/-
  What the chapter's laws share, part 3: plain facts, memory, and walks of functions. Its conditions: those that each theorem names.
-/
import Derived.Test.YtcjmfjccjhdgjaaGreatDoorSort
import Derived.Test.YtcjmfjccjhdgjaaGreatDoorShelf
import Derived.Shelf.Unicode.DecodeLast
import Derived.Test.YtcjmfjccjhdgjaaGreatDoorK2
set_option linter.unusedSimpArgs false
set_option linter.unusedVariables false
namespace Go.Bd
theorem isB {c d : UInt8} {k : Int} (hk : (d.toNat : Int) = k) (h : c = d) : ((c.toNat : Int) == k) = true := by subst h; rw [hk]; simp
theorem neB {c d : UInt8} {k : Int} (hk : (d.toNat : Int) = k) (h : c ≠ d) : ((c.toNat : Int) == k) = false := by
  rw [beq_eq_false_iff_ne, ← hk]
  intro e
  exact h (UInt8.toNat_inj.1 (by omega))
theorem pre_hasPrefix (s p : Bs) : Lib.hasPrefix s p = p.isPrefixOf s := by first | rfl | simp [Lib.hasPrefix] | (unfold Lib.hasPrefix; rfl)
end Go.Bd
namespace Go.Proofs.YtcjmfjccjhdgjaaGreatDoor
open Go.RowKit Go.Bd
section
variable {w : World} {B : Nat} {col : Nat → Nat} {pb ob cap len : Nat} {s : ByteArray} {st : Pst} {i : Nat} {fv : Value} {gb : Nat} {cs : Array Value} {gn : List Bs}
/-- what a step leaves -/
def StepPost (B pb : Nat) (s : ByteArray) (gb : Nat) (w : World) (col : Nat → Nat) (st' : Pst) (j : Nat) (w' : World) : Prop :=
  ∃ col' ob' cap' fv' cs' gn', PSx Tryz.prog w' B col' pb ob' cap' st'.fs.length s st' j fv' gb cs' gn' ∧ Stay B w w' col col'
theorem between_any (h : PSx Tryz.prog w B col pb ob cap len s st i fv gb cs gn) (hl : len = st.fs.length) (hI : Inv st i) (a b : ByteArray) (ha : 1 ≤ a.size) (ha2 : a.size ≤ 2) (hb0 : 1 ≤ b.size) (hb : b.size ≤ 2) (hi : i + a.size ≤ s.size) (hs : s.size ≤ 100000) (F : Nat) (m : Int) (hm : w.cell? ⟨0, 0, none⟩ = some (.int .i64 m)) (hB : 0 < B)
    {af : Bs → Sp ⊕ Nat} (hF : AsOk F af) (has : af = codeS ∨ af = refS ∨ af = termS) :
    Calls Tryz.prog 98 #[.pointer (some ⟨pb, 0, none⟩), .int .i64 (i : Int), .string a, .string b, .func (.func F) #[] #[]] w fun e w' => e = .returned (.int .i64 ((st.between s.data.toList i a.data.toList b.data.toList af).2 : Nat)) ∧
      StepPost B pb s gb w col (st.between s.data.toList i a.data.toList b.data.toList af).1 (st.between s.data.toList i a.data.toList b.data.toList af).2 w' := by
  have la : a.data.toList.length = a.size := by simp
  have lb : b.data.toList.length = b.size := by simp
  have ls : s.data.toList.length = s.size := by simp
  unfold Pst.between
  rw [la, lb]
  cases hn : nextAt s.data.toList (i + a.size) b.data.toList with
  | none =>
    refine (between_none h hl hI a b ha ha2 hb hi hs F m hm hn).mono ?_
    rintro e w' ⟨rfl, col', fv', cs', gn', h1, h2⟩
    exact ⟨rfl, col', ob, cap, fv', cs', gn', by rw [show (((st.write a.data.toList).tell i 7 : Pst)).fs.length = len by rw [tellLen, writeLen, hl]]; exact h1, h2⟩
  | some n =>
    obtain ⟨n1, n2⟩ := nextAt_some (by omega) hn
    rw [lb, ls] at n2
    simp only
    cases haf : af ((s.data.toList.drop (i + a.size)).take (n - (i + a.size))) with
    | inr fc =>
      have hfc : 1 ≤ fc := by rcases as_fault has haf with h | h | h <;> omega
      refine (between_bad h hl hI a b ha ha2 hb hi hs F m hm hB hn n2 hF haf hfc).mono ?_
      rintro e w' ⟨rfl, col', fv', cs', gn', h1, h2⟩
      exact ⟨rfl, col', ob, cap, fv', cs', gn', by rw [show (((st.write ((s.data.toList.drop i).take (n + b.size - i))).tell i fc : Pst)).fs.length = len by rw [tellLen, writeLen, hl]]; exact h1, h2⟩
    | inl x =>
      obtain ⟨_, p2, p3, _⟩ := as_wt has haf
      refine (between_good h hl hI a b ha ha2 hb hi hs F m hm hB hn n2 hF haf p3 (fun h => absurd h p2)).mono ?_
      rintro e w' ⟨rfl, col', fv', cs', gn', h1, h2⟩
      exact ⟨rfl, col', ob, cap, fv', cs', gn', by rw [show ((st.top (·.add x) : Pst)).fs.length = len by rw [hl]; exact onTop_length (·.add x) st.fs]; exact h1, h2⟩
/-- the rest of a text -/
theorem rest_list (s : ByteArray) (i : Nat) : (s.extract i s.size).data.toList = s.data.toList.drop i := by
  rw [cut_list, List.take_of_length_le (by simp)]
theorem rest_get {s : ByteArray} {i : Nat} (j : Nat) (h : j < (s.extract i s.size).size) : (s.extract i s.size)[j] = s.data.toList.getD (i + j) 0 := by
  have e : (s.extract i s.size)[j] = (s.extract i s.size).data.toList[j]'(by simpa using h) := by first | rfl | simp [ByteArray.getElem_eq_getElem_data]
  rw [e, List.getD_eq_getElem?_getD]
  simp only [rest_list, List.getElem_drop]
  rw [List.getElem?_eq_getElem]
  rfl

set_option maxRecDepth 100000 in
set_option maxHeartbeats 2000000 in
theorem step_esc (h : PSx Tryz.prog w B col pb ob cap len s st i fv gb cs gn) (hl : len = st.fs.length) (hI : Inv st i) (hi : i < s.size) (hs : s.size ≤ 100000) (m : Int) (hm : w.cell? ⟨0, 0, none⟩ = some (.int .i64 m)) (hB : 0 < B) (hc : s.data.toList.getD i 0 = 92) (hn : i + 1 < s.size) (he : escB (s.data.toList.getD (i + 1) 0) = true) :
    Calls Tryz.prog 78 #[.pointer (some ⟨pb, 0, none⟩), .int .i64 (i : Int)] w fun e w' => e = .returned (.int .i64 ((i + 2 : Nat) : Int)) ∧ StepPost B pb s gb w col (st.write [s.data.toList.getD (i + 1) 0]) (i + 2) w' := by
  have h17 := hI.2.2.2
  have h1 := hI.2.2.1
  have c0 := h.hp.cell 0
  obtain ⟨f, r, hfs⟩ : ∃ f r, st.fs = f :: r := by
    match hq : st.fs, hI.2.2.1 with
    | f :: r, _ => exact ⟨f, r, rfl⟩
    | [], hq2 => simp at hq2
  have hftx : f.row.tx.length ≤ 100000 := by
    have := hI.1
    rw [hfs, wtFs_cons] at this
    unfold wtF wtR at this
    omega
  have hflt : st.faults.length ≤ 10000000 := by have := hI.2.1; omega
  have HLR : Hid (len = r.length + 1) := by unfold Hid; rw [hl, hfs]; rfl
  have hr17 : r.length ≤ 17 := by have := HLR.out; omega
  have rz : (s.extract i s.size).size = s.size - i := by simp
  have rz1 : 0 < (s.extract i s.size).size := by omega
  have rz2 : (s.extract i s.size).size ≤ 100000 := by omega
  have G0 : Hid ((s.extract i s.size)[0]'rz1 = s.data.toList.getD i 0) := rest_get (s := s) (i := i) 0 rz1
  have RL := Lib.hid (rest_list s i)
  have q92 : ((((s.extract i s.size)[0]'rz1).toNat : Int) == 92) = true := by
    rw [G0.out]; exact isB (d := 92) rfl hc
  have rz3 : 1 < (s.extract i s.size).size := by omega
  have e1 : IntKind.i64.wrap ((i : Int) + 2) = ((i + 2 : Nat) : Int) := by rw [show (i : Int) + 2 = ((i + 2 : Nat) : Int) by omega]; exact IntWalk.i64_in _ (by omega)
  have ce : ∀ w, Calls Tryz.prog 96 #[.int .u8 (((s.extract i s.size)[1]'rz3).toNat : Int)] w fun e w' => e = .returned (.bool true) ∧ w = w' := fun w => by
    have := escaped_any ((s.extract i s.size)[1]'rz3) w
    rw [rest_get 1 rz3, he] at this
    rw [rest_get 1 rz3]
    exact this
  have RX : Hid (((s.extract i s.size).extract 1 2).data.toList = [s.data.toList.getD (i + 1) 0]) := by
    unfold Hid
    rw [cut_list, rest_list, List.drop_drop]
    have hlt : i + 1 < s.data.toList.length := by simpa using hn
    rw [List.drop_eq_getElem_cons hlt, List.getD_eq_getElem?_getD, List.getElem?_eq_getElem hlt]
    rfl
  have C0 := Lib.hid c0
  have H := Lib.hid h
  have HPD := Lib.hid (fun k => PSx.drewN h k)
  have HFS := Lib.hid hfs
  have HL := Lib.hid hl
  clear hc he hm hI h1 h17 h hl hfs G0 RL
  obtain ⟨R, hR⟩ : ∃ R, s.extract i s.size = R := ⟨_, rfl⟩
  rw [hR] at rz
  have RZ := Lib.hid rz
  clear rz
  simp only [hR] at rz1 rz2 rz3 q92 ce RX
  have rz4 : (2 : Int) ≤ (R.size : Int) := by omega
  go_enter Tryz.func78, Tryz.ntmps78
  go_wp2_with (first
    | (go_at_call 96; refine (ce _).mono ?_; rintro e w' ⟨rfl, rfl⟩)
    | fail)
  refine wp_region_held_drew (S := (fun w' => w'.cell? ⟨pb, 0, none⟩ = some (.string s))) (by kernel_rfl) ?_ (fun hHeld0 => ?_)
  · (try dsimp only)
    first | exact C0.out | exact z0
  refine wpAnyH_take (i := 0) (v := ?_) rfl (by kernel_rfl) (by kernel_rfl) (by kernel_rfl) (fun _ _ _ h => h) (Or.inl ⟨by kernel_rfl, ?_⟩) (by assumption) ?_
  rotate_left
  · (intro w hSw; (try dsimp only at hSw); go_simp; (first | done | with_reducible rfl))
  (try simp only [Act.put, List.setIfInBounds_toArray, List.set_cons_zero, List.set_cons_succ])
  refine wpAnyH_take (i := 4) (v := ?_) rfl (by kernel_rfl) (by kernel_rfl) (by kernel_rfl) (fun _ _ _ h => h) (Or.inl ⟨by kernel_rfl, ?_⟩) (by assumption) ?_
  rotate_left
  · (intro w hSw; (try dsimp only at hSw); go_simp; (first | done | with_reducible rfl))
  (try simp only [Act.put, List.setIfInBounds_toArray, List.set_cons_zero, List.set_cons_succ])
  refine wpAnyH_take (i := 5) (v := ?_) rfl (by kernel_rfl) (by kernel_rfl) (by kernel_rfl) (fun _ _ _ h => h) (Or.inl ⟨by kernel_rfl, ?_⟩) (by assumption) ?_
  rotate_left
  · (intro w hSw; (try dsimp only at hSw); go_simp; (first | done | with_reducible rfl))
  (try simp only [Act.put, List.setIfInBounds_toArray, List.set_cons_zero, List.set_cons_succ])
  refine wpAnyH_ready (rs := [1]) (by kernel_rfl) (by simp) ?_
  refine AllReadyH.cons rfl (fun K hK => ?_) AllReadyH.nil
  go_simp
  refine (top_any (n := r.length) (by rw [← HLR.out]; exact HPD.out _) (by omega)).mono ?_
  rintro e w3 ⟨rfl, kk, rfl⟩
  go_wp2_with fail
  refine hK.out _ _ ?_ (fun hHeld1 => ?_)
  · (try dsimp only)
    first | exact C0.out | exact z0
  clear hK K hHeld0
  (try simp only [Act.put, List.setIfInBounds_toArray, List.set_cons_zero, List.set_cons_succ])
  refine wpAnyH_take (i := 2) (v := ?_) rfl (by kernel_rfl) (by kernel_rfl) (by kernel_rfl) (fun _ _ _ h => h) (Or.inl ⟨by kernel_rfl, ?_⟩) (by assumption) ?_
  rotate_left
  · (intro w hSw; (try dsimp only at hSw); go_simp; (first | done | with_reducible rfl))
  (try simp only [Act.put, List.setIfInBounds_toArray, List.set_cons_zero, List.set_cons_succ])
  refine wpAnyH_take (i := 3) (v := ?_) rfl (by kernel_rfl) (by kernel_rfl) (by kernel_rfl) (fun _ _ _ h => h) (Or.inl ⟨by kernel_rfl, ?_⟩) (by assumption) ?_
  rotate_left
  · (intro w hSw; (try dsimp only at hSw); go_simp; (first | done | with_reducible rfl))
  (try simp only [Act.put, List.setIfInBounds_toArray, List.set_cons_zero, List.set_cons_succ])
  refine wpAnyH_ready (rs := [6]) (by kernel_rfl) (by simp) ?_
  refine AllReadyH.cons rfl (fun K hK => ?_) AllReadyH.nil
  go_simp
  refine (writeTop_any (HPD.out _) HFS.out (R.extract 1 2) (by simp; omega) (by omega)).mono ?_
  rintro e w4 ⟨rfl, col4, cs4, h4, st4⟩
  have st5 := st4.undrew
  have H4 := Lib.hid h4
  have ST4 := Lib.hid st5
  have z0 := h4.hp.cell 0
  clear h4 st4 st5
  go_wp2_with fail
  refine hK.out _ _ ?_ (fun hHeld2 => ?_)
  · (try dsimp only)
    first | exact C0.out | exact z0
  clear hK K hHeld1
  (try simp only [Act.put, List.setIfInBounds_toArray, List.set_cons_zero, List.set_cons_succ])
  refine wpAnyH_done (by kernel_rfl) ?_ _
  go_wp2
  go_ret
  refine ⟨rfl, col4, ob, cap, fv, cs4, gn, ?_, ST4.out⟩
  have e : (R.extract 1 2).data.toList = [s.data.toList.getD (i + 1) 0] := RX.out
  have H5 := H4.out
  rw [e] at H5
  rw [writeLen, ← HL.out]
  exact H5.on (by omega)
set_option maxRecDepth 100000 in
set_option maxHeartbeats 2000000 in
theorem step_code (h : PSx Tryz.prog w B col pb ob cap len s st i fv gb cs gn) (hl : len = st.fs.length) (hI : Inv st i) (hi : i < s.size) (hs : s.size ≤ 100000) (m : Int) (hm : w.cell? ⟨0, 0, none⟩ = some (.int .i64 m)) (hB : 0 < B) (hc : s.data.toList.getD i 0 = 96) :
    Calls Tryz.prog 78 #[.pointer (some ⟨pb, 0, none⟩), .int .i64 (i : Int)] w fun e w' => e = .returned (.int .i64 (((st.between s.data.toList i [96] [96] codeS).2 : Nat) : Int)) ∧ StepPost B pb s gb w col (st.between s.data.toList i [96] [96] codeS).1 ((st.between s.data.toList i [96] [96] codeS).2) w' := by
  have h17 := hI.2.2.2
  have h1 := hI.2.2.1
  have c0 := h.hp.cell 0
  obtain ⟨f, r, hfs⟩ : ∃ f r, st.fs = f :: r := by
    match hq : st.fs, hI.2.2.1 with
    | f :: r, _ => exact ⟨f, r, rfl⟩
    | [], hq2 => simp at hq2
  have hftx : f.row.tx.length ≤ 100000 := by
    have := hI.1
    rw [hfs, wtFs_cons] at this
    unfold wtF wtR at this
    omega
  have hflt : st.faults.length ≤ 10000000 := by have := hI.2.1; omega
  have HLR : Hid (len = r.length + 1) := by unfold Hid; rw [hl, hfs]; rfl
  have hr17 : r.length ≤ 17 := by have := HLR.out; omega
  have rz : (s.extract i s.size).size = s.size - i := by simp
  have rz1 : 0 < (s.extract i s.size).size := by omega
  have rz2 : (s.extract i s.size).size ≤ 100000 := by omega
  have G0 : Hid ((s.extract i s.size)[0]'rz1 = s.data.toList.getD i 0) := rest_get (s := s) (i := i) 0 rz1
  have RL := Lib.hid (rest_list s i)
  have q92 : ((((s.extract i s.size)[0]'rz1).toNat : Int) == 92) = false := by
    rw [G0.out]; exact neB (d := 92) rfl (by rw [hc]; decide)
  have q96 : ((((s.extract i s.size)[0]'rz1).toNat : Int) == 96) = true := by
    rw [G0.out]; exact isB (d := 96) rfl hc
  have cb : Calls Tryz.prog 98 #[.pointer (some ⟨pb, 0, none⟩), .int .i64 (i : Int), .string ⟨#[96]⟩, .string ⟨#[96]⟩, .func (.func 99) #[] #[]] w fun e w' => e = .returned (.int .i64 ((st.between s.data.toList i [96] [96] codeS).2 : Nat)) ∧ StepPost B pb s gb w col (st.between s.data.toList i [96] [96] codeS).1 (st.between s.data.toList i [96] [96] codeS).2 w' :=
    between_any h hl hI ⟨#[96]⟩ ⟨#[96]⟩ (by decide) (by decide) (by decide) (by decide) (by show i + 1 ≤ s.size; omega) hs _ m hm hB code_any (.inl rfl)
  have C0 := Lib.hid c0
  have H := Lib.hid h
  have HPD := Lib.hid (fun k => PSx.drewN h k)
  have HFS := Lib.hid hfs
  have HL := Lib.hid hl
  have HI := Lib.hid hI
  generalize st.between s.data.toList i [96] [96] codeS = bt at cb
  clear hc hm hI h1 h17 h hl hfs G0 RL
  obtain ⟨R, hR⟩ : ∃ R, s.extract i s.size = R := ⟨_, rfl⟩
  rw [hR] at rz
  have RZ := Lib.hid rz
  clear rz
  simp only [hR] at rz1 rz2 q92 q96
  go_enter Tryz.func78, Tryz.ntmps78
  go_wp2_with (first
    | (go_at_call 98; refine cb.mono ?_; rintro e w' ⟨rfl, hpost⟩)
    | fail)
  go_ret
  exact ⟨rfl, hpost⟩
set_option maxRecDepth 100000 in
set_option maxHeartbeats 2000000 in
theorem step_ref (h : PSx Tryz.prog w B col pb ob cap len s st i fv gb cs gn) (hl : len = st.fs.length) (hI : Inv st i) (hi : i < s.size) (hs : s.size ≤ 100000) (m : Int) (hm : w.cell? ⟨0, 0, none⟩ = some (.int .i64 m)) (hB : 0 < B) (hc : s.data.toList.getD i 0 = 60) (hp : [60, 60].isPrefixOf (s.data.toList.drop i) = true) :
    Calls Tryz.prog 78 #[.pointer (some ⟨pb, 0, none⟩), .int .i64 (i : Int)] w fun e w' => e = .returned (.int .i64 (((st.between s.data.toList i [60, 60] [62, 62] refS).2 : Nat) : Int)) ∧ StepPost B pb s gb w col (st.between s.data.toList i [60, 60] [62, 62] refS).1 ((st.between s.data.toList i [60, 60] [62, 62] refS).2) w' := by
  have h17 := hI.2.2.2
  have h1 := hI.2.2.1
  have c0 := h.hp.cell 0
  obtain ⟨f, r, hfs⟩ : ∃ f r, st.fs = f :: r := by
    match hq : st.fs, hI.2.2.1 with
    | f :: r, _ => exact ⟨f, r, rfl⟩
    | [], hq2 => simp at hq2
  have hftx : f.row.tx.length ≤ 100000 := by
    have := hI.1
    rw [hfs, wtFs_cons] at this
    unfold wtF wtR at this
    omega
  have hflt : st.faults.length ≤ 10000000 := by have := hI.2.1; omega
  have HLR : Hid (len = r.length + 1) := by unfold Hid; rw [hl, hfs]; rfl
  have hr17 : r.length ≤ 17 := by have := HLR.out; omega
  have rz : (s.extract i s.size).size = s.size - i := by simp
  have rz1 : 0 < (s.extract i s.size).size := by omega
  have rz2 : (s.extract i s.size).size ≤ 100000 := by omega
  have G0 : Hid ((s.extract i s.size)[0]'rz1 = s.data.toList.getD i 0) := rest_get (s := s) (i := i) 0 rz1
  have RL := Lib.hid (rest_list s i)
  have q92 : ((((s.extract i s.size)[0]'rz1).toNat : Int) == 92) = false := by
    rw [G0.out]; exact neB (d := 92) rfl (by rw [hc]; decide)
  have q96 : ((((s.extract i s.size)[0]'rz1).toNat : Int) == 96) = false := by
    rw [G0.out]; exact neB (d := 96) rfl (by rw [hc]; decide)
  have p60 : ∀ w, Calls Tryz.prog 40 #[.string (s.extract i s.size), .string ⟨#[60, 60]⟩] w fun e w' => e = .returned (.bool true) ∧ w' = w := fun w => by
    have := Tryz.strings_HasPrefix (s.extract i s.size) ⟨#[60, 60]⟩ w
    rw [pre_hasPrefix, RL.out, show (ByteArray.mk #[60, 60]).data.toList = [60, 60] from rfl, hp] at this
    exact this
  have cb : Calls Tryz.prog 98 #[.pointer (some ⟨pb, 0, none⟩), .int .i64 (i : Int), .string ⟨#[60, 60]⟩, .string ⟨#[62, 62]⟩, .func (.func 100) #[] #[]] w fun e w' => e = .returned (.int .i64 ((st.between s.data.toList i [60, 60] [62, 62] refS).2 : Nat)) ∧ StepPost B pb s gb w col (st.between s.data.toList i [60, 60] [62, 62] refS).1 (st.between s.data.toList i [60, 60] [62, 62] refS).2 w' :=
    between_any h hl hI ⟨#[60, 60]⟩ ⟨#[62, 62]⟩ (by decide) (by decide) (by decide) (by decide) (by have := prefix_two hp; simp at this; show i + 2 ≤ s.size; omega) hs _ m hm hB ref_any (.inr (.inl rfl))
  have C0 := Lib.hid c0
  have H := Lib.hid h
  have HPD := Lib.hid (fun k => PSx.drewN h k)
  have HFS := Lib.hid hfs
  have HL := Lib.hid hl
  have HI := Lib.hid hI
  generalize st.between s.data.toList i [60, 60] [62, 62] refS = bt at cb
  clear hc hm hI h1 h17 h hl hfs G0 RL
  obtain ⟨R, hR⟩ : ∃ R, s.extract i s.size = R := ⟨_, rfl⟩
  rw [hR] at rz
  have RZ := Lib.hid rz
  clear rz
  simp only [hR] at rz1 rz2 q92 q96 p60
  go_enter Tryz.func78, Tryz.ntmps78
  go_wp2_with (first
    | (go_at_call 40; (with_reducible refine (p60 _).mono ?_); rintro e w' ⟨rfl, rfl⟩)
    | (go_at_call 98; refine cb.mono ?_; rintro e w' ⟨rfl, hpost⟩)
    | fail)
  go_ret
  exact ⟨rfl, hpost⟩
set_option maxRecDepth 100000 in
set_option maxHeartbeats 2000000 in
theorem step_term (h : PSx Tryz.prog w B col pb ob cap len s st i fv gb cs gn) (hl : len = st.fs.length) (hI : Inv st i) (hi : i < s.size) (hs : s.size ≤ 100000) (m : Int) (hm : w.cell? ⟨0, 0, none⟩ = some (.int .i64 m)) (hB : 0 < B) (hc : s.data.toList.getD i 0 = 40) (hp : [40, 40].isPrefixOf (s.data.toList.drop i) = true) :
    Calls Tryz.prog 78 #[.pointer (some ⟨pb, 0, none⟩), .int .i64 (i : Int)] w fun e w' => e = .returned (.int .i64 (((st.between s.data.toList i [40, 40] [41, 41] termS).2 : Nat) : Int)) ∧ StepPost B pb s gb w col (st.between s.data.toList i [40, 40] [41, 41] termS).1 ((st.between s.data.toList i [40, 40] [41, 41] termS).2) w' := by
  have h17 := hI.2.2.2
  have h1 := hI.2.2.1
  have c0 := h.hp.cell 0
  obtain ⟨f, r, hfs⟩ : ∃ f r, st.fs = f :: r := by
    match hq : st.fs, hI.2.2.1 with
    | f :: r, _ => exact ⟨f, r, rfl⟩
    | [], hq2 => simp at hq2
  have hftx : f.row.tx.length ≤ 100000 := by
    have := hI.1
    rw [hfs, wtFs_cons] at this
    unfold wtF wtR at this
    omega
  have hflt : st.faults.length ≤ 10000000 := by have := hI.2.1; omega
  have HLR : Hid (len = r.length + 1) := by unfold Hid; rw [hl, hfs]; rfl
  have hr17 : r.length ≤ 17 := by have := HLR.out; omega
  have rz : (s.extract i s.size).size = s.size - i := by simp
  have rz1 : 0 < (s.extract i s.size).size := by omega
  have rz2 : (s.extract i s.size).size ≤ 100000 := by omega
  have G0 : Hid ((s.extract i s.size)[0]'rz1 = s.data.toList.getD i 0) := rest_get (s := s) (i := i) 0 rz1
  have RL := Lib.hid (rest_list s i)
  have q92 : ((((s.extract i s.size)[0]'rz1).toNat : Int) == 92) = false := by
    rw [G0.out]; exact neB (d := 92) rfl (by rw [hc]; decide)
  have q96 : ((((s.extract i s.size)[0]'rz1).toNat : Int) == 96) = false := by
    rw [G0.out]; exact neB (d := 96) rfl (by rw [hc]; decide)
  have p60 : ∀ w, Calls Tryz.prog 40 #[.string (s.extract i s.size), .string ⟨#[60, 60]⟩] w fun e w' => e = .returned (.bool false) ∧ w' = w := fun w => by
    have := Tryz.strings_HasPrefix (s.extract i s.size) ⟨#[60, 60]⟩ w
    rw [pre_hasPrefix, RL.out, show (ByteArray.mk #[60, 60]).data.toList = [60, 60] from rfl, pre_ne (by simpa using hi) (by rw [hc]; decide)] at this
    exact this
  have p40 : ∀ w, Calls Tryz.prog 40 #[.string (s.extract i s.size), .string ⟨#[40, 40]⟩] w fun e w' => e = .returned (.bool true) ∧ w' = w := fun w => by
    have := Tryz.strings_HasPrefix (s.extract i s.size) ⟨#[40, 40]⟩ w
    rw [pre_hasPrefix, RL.out, show (ByteArray.mk #[40, 40]).data.toList = [40, 40] from rfl, hp] at this
    exact this
  have cb : Calls Tryz.prog 98 #[.pointer (some ⟨pb, 0, none⟩), .int .i64 (i : Int), .string ⟨#[40, 40]⟩, .string ⟨#[41, 41]⟩, .func (.func 101) #[] #[]] w fun e w' => e = .returned (.int .i64 ((st.between s.data.toList i [40, 40] [41, 41] termS).2 : Nat)) ∧ StepPost B pb s gb w col (st.between s.data.toList i [40, 40] [41, 41] termS).1 (st.between s.data.toList i [40, 40] [41, 41] termS).2 w' :=
    between_any h hl hI ⟨#[40, 40]⟩ ⟨#[41, 41]⟩ (by decide) (by decide) (by decide) (by decide) (by have := prefix_two hp; simp at this; show i + 2 ≤ s.size; omega) hs _ m hm hB term_any (.inr (.inr rfl))
  have C0 := Lib.hid c0
  have H := Lib.hid h
  have HPD := Lib.hid (fun k => PSx.drewN h k)
  have HFS := Lib.hid hfs
  have HL := Lib.hid hl
  have HI := Lib.hid hI
  generalize st.between s.data.toList i [40, 40] [41, 41] termS = bt at cb
  clear hc hm hI h1 h17 h hl hfs G0 RL
  obtain ⟨R, hR⟩ : ∃ R, s.extract i s.size = R := ⟨_, rfl⟩
  rw [hR] at rz
  have RZ := Lib.hid rz
  clear rz
  simp only [hR] at rz1 rz2 q92 q96 p60 p40
  go_enter Tryz.func78, Tryz.ntmps78
  go_wp2_with (first
    | (go_at_call 40; (with_reducible refine (p60 _).mono ?_); rintro e w' ⟨rfl, rfl⟩)
    | (go_at_call 40; (with_reducible refine (p40 _).mono ?_); rintro e w' ⟨rfl, rfl⟩)
    | (go_at_call 98; refine cb.mono ?_; rintro e w' ⟨rfl, hpost⟩)
    | fail)
  go_ret
  exact ⟨rfl, hpost⟩
set_option maxRecDepth 100000 in
set_option maxHeartbeats 2000000 in
theorem step_note (h : PSx Tryz.prog w B col pb ob cap len s st i fv gb cs gn) (hl : len = st.fs.length) (hI : Inv st i) (hi : i < s.size) (hs : s.size ≤ 100000) (m : Int) (hm : w.cell? ⟨0, 0, none⟩ = some (.int .i64 m)) (hB : 0 < B) (hc : s.data.toList.getD i 0 = 94) (hp : [94, 91].isPrefixOf (s.data.toList.drop i) = true) (hr : st.room = true) :
    Calls Tryz.prog 78 #[.pointer (some ⟨pb, 0, none⟩), .int .i64 (i : Int)] w fun e w' => e = .returned (.int .i64 ((i + 2 : Nat) : Int)) ∧ StepPost B pb s gb w col (st.begin 6 i [94, 91]) (i + 2) w' := by
  have h17 := hI.2.2.2
  have h1 := hI.2.2.1
  have c0 := h.hp.cell 0
  obtain ⟨f, r, hfs⟩ : ∃ f r, st.fs = f :: r := by
    match hq : st.fs, hI.2.2.1 with
    | f :: r, _ => exact ⟨f, r, rfl⟩
    | [], hq2 => simp at hq2
  have hftx : f.row.tx.length ≤ 100000 := by
    have := hI.1
    rw [hfs, wtFs_cons] at this
    unfold wtF wtR at this
    omega
  have hflt : st.faults.length ≤ 10000000 := by have := hI.2.1; omega
  have HLR : Hid (len = r.length + 1) := by unfold Hid; rw [hl, hfs]; rfl
  have hr17 : r.length ≤ 17 := by have := HLR.out; omega
  have rz : (s.extract i s.size).size = s.size - i := by simp
  have rz1 : 0 < (s.extract i s.size).size := by omega
  have rz2 : (s.extract i s.size).size ≤ 100000 := by omega
  have G0 : Hid ((s.extract i s.size)[0]'rz1 = s.data.toList.getD i 0) := rest_get (s := s) (i := i) 0 rz1
  have RL := Lib.hid (rest_list s i)
  have q92 : ((((s.extract i s.size)[0]'rz1).toNat : Int) == 92) = false := by
    rw [G0.out]; exact neB (d := 92) rfl (by rw [hc]; decide)
  have q96 : ((((s.extract i s.size)[0]'rz1).toNat : Int) == 96) = false := by
    rw [G0.out]; exact neB (d := 96) rfl (by rw [hc]; decide)
  have p60 : ∀ w, Calls Tryz.prog 40 #[.string (s.extract i s.size), .string ⟨#[60, 60]⟩] w fun e w' => e = .returned (.bool false) ∧ w' = w := fun w => by
    have := Tryz.strings_HasPrefix (s.extract i s.size) ⟨#[60, 60]⟩ w
    rw [pre_hasPrefix, RL.out, show (ByteArray.mk #[60, 60]).data.toList = [60, 60] from rfl, pre_ne (by simpa using hi) (by rw [hc]; decide)] at this
    exact this
  have p40 : ∀ w, Calls Tryz.prog 40 #[.string (s.extract i s.size), .string ⟨#[40, 40]⟩] w fun e w' => e = .returned (.bool false) ∧ w' = w := fun w => by
    have := Tryz.strings_HasPrefix (s.extract i s.size) ⟨#[40, 40]⟩ w
    rw [pre_hasPrefix, RL.out, show (ByteArray.mk #[40, 40]).data.toList = [40, 40] from rfl, pre_ne (by simpa using hi) (by rw [hc]; decide)] at this
    exact this
  have p94 : ∀ w, Calls Tryz.prog 40 #[.string (s.extract i s.size), .string ⟨#[94, 91]⟩] w fun e w' => e = .returned (.bool true) ∧ w' = w := fun w => by
    have := Tryz.strings_HasPrefix (s.extract i s.size) ⟨#[94, 91]⟩ w
    rw [pre_hasPrefix, RL.out, show (ByteArray.mk #[94, 91]).data.toList = [94, 91] from rfl, hp] at this
    exact this
  have e1 : IntKind.i64.wrap ((i : Int) + 2) = ((i + 2 : Nat) : Int) := by rw [show (i : Int) + 2 = ((i + 2 : Nat) : Int) by omega]; exact IntWalk.i64_in _ (by omega)
  have hin := prefix_two hp
  simp only [Array.length_toList, ByteArray.size_data] at hin
  have cr := room_any h hl (by omega) (by omega)
  rw [hr] at cr
  have C0 := Lib.hid c0
  have H := Lib.hid h
  have HPD := Lib.hid (fun k => PSx.drewN h k)
  have HFS := Lib.hid hfs
  have HL := Lib.hid hl
  have HI := Lib.hid hI
  have cbg := begin_any h hl (by omega) 6 i [94, 91]
  clear hc hr hp hm hI h1 h17 h hl hfs G0 RL
  obtain ⟨R, hR⟩ : ∃ R, s.extract i s.size = R := ⟨_, rfl⟩
  rw [hR] at rz
  have RZ := Lib.hid rz
  clear rz
  simp only [hR] at rz1 rz2 q92 q96 p60 p40 p94
  go_enter Tryz.func78, Tryz.ntmps78
  go_wp2_with (first
    | (go_at_call 40; (with_reducible refine (p60 _).mono ?_); rintro e w' ⟨rfl, rfl⟩)
    | (go_at_call 40; (with_reducible refine (p40 _).mono ?_); rintro e w' ⟨rfl, rfl⟩)
    | (go_at_call 40; (with_reducible refine (p94 _).mono ?_); rintro e w' ⟨rfl, rfl⟩)
    | (go_at_call 102; refine cr.mono ?_; rintro e w' ⟨rfl, rfl⟩)
    | fail)
  refine cbg.mono ?_
  clear cbg
  rintro e w2 ⟨rfl, col2, ob2, cap2, cs2, h2, st2⟩
  have H2 := Lib.hid h2
  have ST2 := Lib.hid st2
  clear h2 st2
  go_wp2
  go_ret
  exact ⟨rfl, col2, ob2, cap2, fv, cs2, gn, by rw [beginLen, ← HL.out]; exact H2.out.on (by omega), ST2.out⟩
set_option maxRecDepth 100000 in
set_option maxHeartbeats 2000000 in
theorem step_full (h : PSx Tryz.prog w B col pb ob cap len s st i fv gb cs gn) (hl : len = st.fs.length) (hI : Inv st i) (hi : i < s.size) (hs : s.size ≤ 100000) (m : Int) (hm : w.cell? ⟨0, 0, none⟩ = some (.int .i64 m)) (hB : 0 < B) (hc : s.data.toList.getD i 0 = 94) (hp : [94, 91].isPrefixOf (s.data.toList.drop i) = true) (hr : st.room = false) :
    Calls Tryz.prog 78 #[.pointer (some ⟨pb, 0, none⟩), .int .i64 (i : Int)] w fun e w' => e = .returned (.int .i64 ((i + 2 : Nat) : Int)) ∧ StepPost B pb s gb w col ((st.write [94, 91]).tell i 7) (i + 2) w' := by
  have h17 := hI.2.2.2
  have h1 := hI.2.2.1
  have c0 := h.hp.cell 0
  obtain ⟨f, r, hfs⟩ : ∃ f r, st.fs = f :: r := by
    match hq : st.fs, hI.2.2.1 with
    | f :: r, _ => exact ⟨f, r, rfl⟩
    | [], hq2 => simp at hq2
  have hftx : f.row.tx.length ≤ 100000 := by
    have := hI.1
    rw [hfs, wtFs_cons] at this
    unfold wtF wtR at this
    omega
  have hflt : st.faults.length ≤ 10000000 := by have := hI.2.1; omega
  have HLR : Hid (len = r.length + 1) := by unfold Hid; rw [hl, hfs]; rfl
  have hr17 : r.length ≤ 17 := by have := HLR.out; omega
  have rz : (s.extract i s.size).size = s.size - i := by simp
  have rz1 : 0 < (s.extract i s.size).size := by omega
  have rz2 : (s.extract i s.size).size ≤ 100000 := by omega
  have G0 : Hid ((s.extract i s.size)[0]'rz1 = s.data.toList.getD i 0) := rest_get (s := s) (i := i) 0 rz1
  have RL := Lib.hid (rest_list s i)
  have q92 : ((((s.extract i s.size)[0]'rz1).toNat : Int) == 92) = false := by
    rw [G0.out]; exact neB (d := 92) rfl (by rw [hc]; decide)
  have q96 : ((((s.extract i s.size)[0]'rz1).toNat : Int) == 96) = false := by
    rw [G0.out]; exact neB (d := 96) rfl (by rw [hc]; decide)
  have p60 : ∀ w, Calls Tryz.prog 40 #[.string (s.extract i s.size), .string ⟨#[60, 60]⟩] w fun e w' => e = .returned (.bool false) ∧ w' = w := fun w => by
    have := Tryz.strings_HasPrefix (s.extract i s.size) ⟨#[60, 60]⟩ w
    rw [pre_hasPrefix, RL.out, show (ByteArray.mk #[60, 60]).data.toList = [60, 60] from rfl, pre_ne (by simpa using hi) (by rw [hc]; decide)] at this
    exact this
  have p40 : ∀ w, Calls Tryz.prog 40 #[.string (s.extract i s.size), .string ⟨#[40, 40]⟩] w fun e w' => e = .returned (.bool false) ∧ w' = w := fun w => by
    have := Tryz.strings_HasPrefix (s.extract i s.size) ⟨#[40, 40]⟩ w
    rw [pre_hasPrefix, RL.out, show (ByteArray.mk #[40, 40]).data.toList = [40, 40] from rfl, pre_ne (by simpa using hi) (by rw [hc]; decide)] at this
    exact this
  have p94 : ∀ w, Calls Tryz.prog 40 #[.string (s.extract i s.size), .string ⟨#[94, 91]⟩] w fun e w' => e = .returned (.bool true) ∧ w' = w := fun w => by
    have := Tryz.strings_HasPrefix (s.extract i s.size) ⟨#[94, 91]⟩ w
    rw [pre_hasPrefix, RL.out, show (ByteArray.mk #[94, 91]).data.toList = [94, 91] from rfl, hp] at this
    exact this
  have e1 : IntKind.i64.wrap ((i : Int) + 2) = ((i + 2 : Nat) : Int) := by rw [show (i : Int) + 2 = ((i + 2 : Nat) : Int) by omega]; exact IntWalk.i64_in _ (by omega)
  have hin := prefix_two hp
  simp only [Array.length_toList, ByteArray.size_data] at hin
  have cr := room_any h hl (by omega) (by omega)
  rw [hr] at cr
  have C0 := Lib.hid c0
  have H := Lib.hid h
  have HPD := Lib.hid (fun k => PSx.drewN h k)
  have HFS := Lib.hid hfs
  have HL := Lib.hid hl
  have HI := Lib.hid hI
  clear hc hr hp hm hI h1 h17 h hl hfs G0 RL
  obtain ⟨R, hR⟩ : ∃ R, s.extract i s.size = R := ⟨_, rfl⟩
  rw [hR] at rz
  have RZ := Lib.hid rz
  clear rz
  simp only [hR] at rz1 rz2 q92 q96 p60 p40 p94
  go_enter Tryz.func78, Tryz.ntmps78
  go_wp2_with (first
    | (go_at_call 40; (with_reducible refine (p60 _).mono ?_); rintro e w' ⟨rfl, rfl⟩)
    | (go_at_call 40; (with_reducible refine (p40 _).mono ?_); rintro e w' ⟨rfl, rfl⟩)
    | (go_at_call 40; (with_reducible refine (p94 _).mono ?_); rintro e w' ⟨rfl, rfl⟩)
    | (go_at_call 102; refine cr.mono ?_; rintro e w' ⟨rfl, rfl⟩)
    | fail)
  refine (top_any (n := r.length) (by rw [← HLR.out]; exact H.out) (by omega)).mono ?_
  rintro e w2 ⟨rfl, kk, rfl⟩
  go_wp2_with fail
  refine (writeTop_any (HPD.out kk) HFS.out ⟨#[94, 91]⟩ (by decide) (by omega)).mono ?_
  rintro e w3 ⟨rfl, col3, cs3, h3, st3⟩
  have H3 := Lib.hid h3
  have ST3 := Lib.hid st3.undrew
  clear h3 st3
  go_wp2_with fail
  refine (tell_any H3.out i 7 hflt).mono ?_
  rintro e w4 ⟨rfl, col4, fv4, h4, st4⟩
  have H4 := Lib.hid h4
  have ST4 := Lib.hid (ST3.out.trans st4)
  clear h4 st4
  go_wp2
  go_ret
  exact ⟨rfl, col4, ob, cap, fv4, cs3, gn, by rw [tellLen, writeLen, ← HL.out]; exact H4.out.on (by omega), ST4.out⟩
set_option maxRecDepth 100000 in
set_option maxHeartbeats 2000000 in
theorem step_shut (h : PSx Tryz.prog w B col pb ob cap len s st i fv gb cs gn) (hl : len = st.fs.length) (hI : Inv st i) (hi : i < s.size) (hs : s.size ≤ 100000) (m : Int) (hm : w.cell? ⟨0, 0, none⟩ = some (.int .i64 m)) (hB : 0 < B) (hc : s.data.toList.getD i 0 = 93) (hn : 0 < lastK 6 st.fs) :
    Calls Tryz.prog 78 #[.pointer (some ⟨pb, 0, none⟩), .int .i64 (i : Int)] w fun e w' => e = .returned (.int .i64 ((i + 1 : Nat) : Int)) ∧ StepPost B pb s gb w col (st.fin (lastK 6 st.fs)) (i + 1) w' := by
  have h17 := hI.2.2.2
  have h1 := hI.2.2.1
  have c0 := h.hp.cell 0
  obtain ⟨f, r, hfs⟩ : ∃ f r, st.fs = f :: r := by
    match hq : st.fs, hI.2.2.1 with
    | f :: r, _ => exact ⟨f, r, rfl⟩
    | [], hq2 => simp at hq2
  have hftx : f.row.tx.length ≤ 100000 := by
    have := hI.1
    rw [hfs, wtFs_cons] at this
    unfold wtF wtR at this
    omega
  have hflt : st.faults.length ≤ 10000000 := by have := hI.2.1; omega
  have HLR : Hid (len = r.length + 1) := by unfold Hid; rw [hl, hfs]; rfl
  have hr17 : r.length ≤ 17 := by have := HLR.out; omega
  have rz : (s.extract i s.size).size = s.size - i := by simp
  have rz1 : 0 < (s.extract i s.size).size := by omega
  have rz2 : (s.extract i s.size).size ≤ 100000 := by omega
  have G0 : Hid ((s.extract i s.size)[0]'rz1 = s.data.toList.getD i 0) := rest_get (s := s) (i := i) 0 rz1
  have RL := Lib.hid (rest_list s i)
  have q92 : ((((s.extract i s.size)[0]'rz1).toNat : Int) == 92) = false := by
    rw [G0.out]; exact neB (d := 92) rfl (by rw [hc]; decide)
  have q96 : ((((s.extract i s.size)[0]'rz1).toNat : Int) == 96) = false := by
    rw [G0.out]; exact neB (d := 96) rfl (by rw [hc]; decide)
  have q93 : ((((s.extract i s.size)[0]'rz1).toNat : Int) == 93) = true := by
    rw [G0.out]; exact isB (d := 93) rfl hc
  have p60 : ∀ w, Calls Tryz.prog 40 #[.string (s.extract i s.size), .string ⟨#[60, 60]⟩] w fun e w' => e = .returned (.bool false) ∧ w' = w := fun w => by
    have := Tryz.strings_HasPrefix (s.extract i s.size) ⟨#[60, 60]⟩ w
    rw [pre_hasPrefix, RL.out, show (ByteArray.mk #[60, 60]).data.toList = [60, 60] from rfl, pre_ne (by simpa using hi) (by rw [hc]; decide)] at this
    exact this
  have p40 : ∀ w, Calls Tryz.prog 40 #[.string (s.extract i s.size), .string ⟨#[40, 40]⟩] w fun e w' => e = .returned (.bool false) ∧ w' = w := fun w => by
    have := Tryz.strings_HasPrefix (s.extract i s.size) ⟨#[40, 40]⟩ w
    rw [pre_hasPrefix, RL.out, show (ByteArray.mk #[40, 40]).data.toList = [40, 40] from rfl, pre_ne (by simpa using hi) (by rw [hc]; decide)] at this
    exact this
  have p94 : ∀ w, Calls Tryz.prog 40 #[.string (s.extract i s.size), .string ⟨#[94, 91]⟩] w fun e w' => e = .returned (.bool false) ∧ w' = w := fun w => by
    have := Tryz.strings_HasPrefix (s.extract i s.size) ⟨#[94, 91]⟩ w
    rw [pre_hasPrefix, RL.out, show (ByteArray.mk #[94, 91]).data.toList = [94, 91] from rfl, pre_ne (by simpa using hi) (by rw [hc]; decide)] at this
    exact this
  have e1 : IntKind.i64.wrap ((i : Int) + 1) = ((i + 1 : Nat) : Int) := by rw [show (i : Int) + 1 = ((i + 1 : Nat) : Int) by omega]; exact IntWalk.i64_in _ (by omega)
  have cl := last_any h hl (by omega) (by omega) 6
  have hla : lastK 6 st.fs < len := by rcases lastK_lt 6 st.fs with h0 | h0 <;> omega
  have C0 := Lib.hid c0
  have H := Lib.hid h
  have HPD := Lib.hid (fun k => PSx.drewN h k)
  have HFS := Lib.hid hfs
  have HL := Lib.hid hl
  have HI := Lib.hid hI
  generalize lastK 6 st.fs = n at cl hla hn ⊢
  clear hc hm hI h1 h17 h hl hfs G0 RL
  obtain ⟨R, hR⟩ : ∃ R, s.extract i s.size = R := ⟨_, rfl⟩
  rw [hR] at rz
  have RZ := Lib.hid rz
  clear rz
  simp only [hR] at rz1 rz2 q92 q96 q93 p60 p40 p94
  go_enter Tryz.func78, Tryz.ntmps78
  go_wp2_with (first
    | (go_at_call 40; (with_reducible refine (p60 _).mono ?_); rintro e w' ⟨rfl, rfl⟩)
    | (go_at_call 40; (with_reducible refine (p40 _).mono ?_); rintro e w' ⟨rfl, rfl⟩)
    | (go_at_call 40; (with_reducible refine (p94 _).mono ?_); rintro e w' ⟨rfl, rfl⟩)
    | (go_at_call 105; refine cl.mono ?_; rintro e w' ⟨rfl, rfl⟩)
    | fail)
  refine (end_any H.out HL.out n (by omega) hla i HI.out (by omega)).mono ?_
  rintro e w2 ⟨rfl, col2, fv2, cs2, h2, st2⟩
  have H2 := Lib.hid h2
  have ST2 := Lib.hid st2
  clear h2 st2 cl
  go_wp2
  go_ret
  have hfl := finLen HI.out (n := n) (by omega) (by rw [← HL.out]; exact hla)
  exact ⟨rfl, col2, ob, cap, fv2, cs2, gn, by rw [hfl]; exact H2.out.on (by omega), ST2.out⟩
set_option maxRecDepth 100000 in
set_option maxHeartbeats 2000000 in
theorem step_starW (h : PSx Tryz.prog w B col pb ob cap len s st i fv gb cs gn) (hl : len = st.fs.length) (hI : Inv st i) (hi : i < s.size) (hs : s.size ≤ 100000) (m : Int) (hm : w.cell? ⟨0, 0, none⟩ = some (.int .i64 m)) (hB : 0 < B) (hc : s.data.toList.getD i 0 = 42) :
    Calls Tryz.prog 78 #[.pointer (some ⟨pb, 0, none⟩), .int .i64 (i : Int)] w fun e w' => e = .returned (.int .i64 ((i + 1 : Nat) : Int)) ∧ StepPost B pb s gb w col (st.mark s.data.toList i 1) (i + 1) w' := by
  have h17 := hI.2.2.2
  have h1 := hI.2.2.1
  have c0 := h.hp.cell 0
  obtain ⟨f, r, hfs⟩ : ∃ f r, st.fs = f :: r := by
    match hq : st.fs, hI.2.2.1 with
    | f :: r, _ => exact ⟨f, r, rfl⟩
    | [], hq2 => simp at hq2
  have hftx : f.row.tx.length ≤ 100000 := by
    have := hI.1
    rw [hfs, wtFs_cons] at this
    unfold wtF wtR at this
    omega
  have hflt : st.faults.length ≤ 10000000 := by have := hI.2.1; omega
  have HLR : Hid (len = r.length + 1) := by unfold Hid; rw [hl, hfs]; rfl
  have hr17 : r.length ≤ 17 := by have := HLR.out; omega
  have rz : (s.extract i s.size).size = s.size - i := by simp
  have rz1 : 0 < (s.extract i s.size).size := by omega
  have rz2 : (s.extract i s.size).size ≤ 100000 := by omega
  have G0 : Hid ((s.extract i s.size)[0]'rz1 = s.data.toList.getD i 0) := rest_get (s := s) (i := i) 0 rz1
  have RL := Lib.hid (rest_list s i)
  have q92 : ((((s.extract i s.size)[0]'rz1).toNat : Int) == 92) = false := by
    rw [G0.out]; exact neB (d := 92) rfl (by rw [hc]; decide)
  have q96 : ((((s.extract i s.size)[0]'rz1).toNat : Int) == 96) = false := by
    rw [G0.out]; exact neB (d := 96) rfl (by rw [hc]; decide)
  have q93 : ((((s.extract i s.size)[0]'rz1).toNat : Int) == 93) = false := by
    rw [G0.out]; exact neB (d := 93) rfl (by rw [hc]; decide)
  have q42 : ((((s.extract i s.size)[0]'rz1).toNat : Int) == 42) = true := by
    rw [G0.out]; exact isB (d := 42) rfl hc
  have p60 : ∀ w, Calls Tryz.prog 40 #[.string (s.extract i s.size), .string ⟨#[60, 60]⟩] w fun e w' => e = .returned (.bool false) ∧ w' = w := fun w => by
    have := Tryz.strings_HasPrefix (s.extract i s.size) ⟨#[60, 60]⟩ w
    rw [pre_hasPrefix, RL.out, show (ByteArray.mk #[60, 60]).data.toList = [60, 60] from rfl, pre_ne (by simpa using hi) (by rw [hc]; decide)] at this
    exact this
  have p40 : ∀ w, Calls Tryz.prog 40 #[.string (s.extract i s.size), .string ⟨#[40, 40]⟩] w fun e w' => e = .returned (.bool false) ∧ w' = w := fun w => by
    have := Tryz.strings_HasPrefix (s.extract i s.size) ⟨#[40, 40]⟩ w
    rw [pre_hasPrefix, RL.out, show (ByteArray.mk #[40, 40]).data.toList = [40, 40] from rfl, pre_ne (by simpa using hi) (by rw [hc]; decide)] at this
    exact this
  have p94 : ∀ w, Calls Tryz.prog 40 #[.string (s.extract i s.size), .string ⟨#[94, 91]⟩] w fun e w' => e = .returned (.bool false) ∧ w' = w := fun w => by
    have := Tryz.strings_HasPrefix (s.extract i s.size) ⟨#[94, 91]⟩ w
    rw [pre_hasPrefix, RL.out, show (ByteArray.mk #[94, 91]).data.toList = [94, 91] from rfl, pre_ne (by simpa using hi) (by rw [hc]; decide)] at this
    exact this
  have e1 : IntKind.i64.wrap ((i : Int) + 1) = ((i + 1 : Nat) : Int) := by rw [show (i : Int) + 1 = ((i + 1 : Nat) : Int) by omega]; exact IntWalk.i64_in _ (by omega)
  have cm := mark_any h hl hI hi hs 1
  have C0 := Lib.hid c0
  have H := Lib.hid h
  have HPD := Lib.hid (fun k => PSx.drewN h k)
  have HFS := Lib.hid hfs
  have HL := Lib.hid hl
  have HI := Lib.hid hI
  clear hc hm hI h1 h17 h hl hfs G0 RL
  obtain ⟨R, hR⟩ : ∃ R, s.extract i s.size = R := ⟨_, rfl⟩
  rw [hR] at rz
  have RZ := Lib.hid rz
  clear rz
  simp only [hR] at rz1 rz2 q92 q96 q93 q42 p60 p40 p94
  go_enter Tryz.func78, Tryz.ntmps78
  go_wp2_with (first
    | (go_at_call 40; (with_reducible refine (p60 _).mono ?_); rintro e w' ⟨rfl, rfl⟩)
    | (go_at_call 40; (with_reducible refine (p40 _).mono ?_); rintro e w' ⟨rfl, rfl⟩)
    | (go_at_call 40; (with_reducible refine (p94 _).mono ?_); rintro e w' ⟨rfl, rfl⟩)
    | fail)
  refine cm.mono ?_
  clear cm
  rintro e w2 ⟨rfl, col2, ob2, cap2, fv2, cs2, h2, st2⟩
  have H2 := Lib.hid h2
  have ST2 := Lib.hid st2
  clear h2 st2
  go_wp2
  go_ret
  exact ⟨rfl, col2, ob2, cap2, fv2, cs2, gn, H2.out.on (by omega), ST2.out⟩
set_option maxRecDepth 100000 in
set_option maxHeartbeats 2000000 in
theorem step_barW (h : PSx Tryz.prog w B col pb ob cap len s st i fv gb cs gn) (hl : len = st.fs.length) (hI : Inv st i) (hi : i < s.size) (hs : s.size ≤ 100000) (m : Int) (hm : w.cell? ⟨0, 0, none⟩ = some (.int .i64 m)) (hB : 0 < B) (hc : s.data.toList.getD i 0 = 95) :
    Calls Tryz.prog 78 #[.pointer (some ⟨pb, 0, none⟩), .int .i64 (i : Int)] w fun e w' => e = .returned (.int .i64 ((i + 1 : Nat) : Int)) ∧ StepPost B pb s gb w col (st.mark s.data.toList i 2) (i + 1) w' := by
  have h17 := hI.2.2.2
  have h1 := hI.2.2.1
  have c0 := h.hp.cell 0
  obtain ⟨f, r, hfs⟩ : ∃ f r, st.fs = f :: r := by
    match hq : st.fs, hI.2.2.1 with
    | f :: r, _ => exact ⟨f, r, rfl⟩
    | [], hq2 => simp at hq2
  have hftx : f.row.tx.length ≤ 100000 := by
    have := hI.1
    rw [hfs, wtFs_cons] at this
    unfold wtF wtR at this
    omega
  have hflt : st.faults.length ≤ 10000000 := by have := hI.2.1; omega
  have HLR : Hid (len = r.length + 1) := by unfold Hid; rw [hl, hfs]; rfl
  have hr17 : r.length ≤ 17 := by have := HLR.out; omega
  have rz : (s.extract i s.size).size = s.size - i := by simp
  have rz1 : 0 < (s.extract i s.size).size := by omega
  have rz2 : (s.extract i s.size).size ≤ 100000 := by omega
  have G0 : Hid ((s.extract i s.size)[0]'rz1 = s.data.toList.getD i 0) := rest_get (s := s) (i := i) 0 rz1
  have RL := Lib.hid (rest_list s i)
  have q92 : ((((s.extract i s.size)[0]'rz1).toNat : Int) == 92) = false := by
    rw [G0.out]; exact neB (d := 92) rfl (by rw [hc]; decide)
  have q96 : ((((s.extract i s.size)[0]'rz1).toNat : Int) == 96) = false := by
    rw [G0.out]; exact neB (d := 96) rfl (by rw [hc]; decide)
  have q93 : ((((s.extract i s.size)[0]'rz1).toNat : Int) == 93) = false := by
    rw [G0.out]; exact neB (d := 93) rfl (by rw [hc]; decide)
  have q42 : ((((s.extract i s.size)[0]'rz1).toNat : Int) == 42) = false := by
    rw [G0.out]; exact neB (d := 42) rfl (by rw [hc]; decide)
  have q95 : ((((s.extract i s.size)[0]'rz1).toNat : Int) == 95) = true := by
    rw [G0.out]; exact isB (d := 95) rfl hc
  have p60 : ∀ w, Calls Tryz.prog 40 #[.string (s.extract i s.size), .string ⟨#[60, 60]⟩] w fun e w' => e = .returned (.bool false) ∧ w' = w := fun w => by
    have := Tryz.strings_HasPrefix (s.extract i s.size) ⟨#[60, 60]⟩ w
    rw [pre_hasPrefix, RL.out, show (ByteArray.mk #[60, 60]).data.toList = [60, 60] from rfl, pre_ne (by simpa using hi) (by rw [hc]; decide)] at this
    exact this
  have p40 : ∀ w, Calls Tryz.prog 40 #[.string (s.extract i s.size), .string ⟨#[40, 40]⟩] w fun e w' => e = .returned (.bool false) ∧ w' = w := fun w => by
    have := Tryz.strings_HasPrefix (s.extract i s.size) ⟨#[40, 40]⟩ w
    rw [pre_hasPrefix, RL.out, show (ByteArray.mk #[40, 40]).data.toList = [40, 40] from rfl, pre_ne (by simpa using hi) (by rw [hc]; decide)] at this
    exact this
  have p94 : ∀ w, Calls Tryz.prog 40 #[.string (s.extract i s.size), .string ⟨#[94, 91]⟩] w fun e w' => e = .returned (.bool false) ∧ w' = w := fun w => by
    have := Tryz.strings_HasPrefix (s.extract i s.size) ⟨#[94, 91]⟩ w
    rw [pre_hasPrefix, RL.out, show (ByteArray.mk #[94, 91]).data.toList = [94, 91] from rfl, pre_ne (by simpa using hi) (by rw [hc]; decide)] at this
    exact this
  have e1 : IntKind.i64.wrap ((i : Int) + 1) = ((i + 1 : Nat) : Int) := by rw [show (i : Int) + 1 = ((i + 1 : Nat) : Int) by omega]; exact IntWalk.i64_in _ (by omega)
  have cm := mark_any h hl hI hi hs 2
  have C0 := Lib.hid c0
  have H := Lib.hid h
  have HPD := Lib.hid (fun k => PSx.drewN h k)
  have HFS := Lib.hid hfs
  have HL := Lib.hid hl
  have HI := Lib.hid hI
  clear hc hm hI h1 h17 h hl hfs G0 RL
  obtain ⟨R, hR⟩ : ∃ R, s.extract i s.size = R := ⟨_, rfl⟩
  rw [hR] at rz
  have RZ := Lib.hid rz
  clear rz
  simp only [hR] at rz1 rz2 q92 q96 q93 q42 q95 p60 p40 p94
  go_enter Tryz.func78, Tryz.ntmps78
  go_wp2_with (first
    | (go_at_call 40; (with_reducible refine (p60 _).mono ?_); rintro e w' ⟨rfl, rfl⟩)
    | (go_at_call 40; (with_reducible refine (p40 _).mono ?_); rintro e w' ⟨rfl, rfl⟩)
    | (go_at_call 40; (with_reducible refine (p94 _).mono ?_); rintro e w' ⟨rfl, rfl⟩)
    | fail)
  refine cm.mono ?_
  clear cm
  rintro e w2 ⟨rfl, col2, ob2, cap2, fv2, cs2, h2, st2⟩
  have H2 := Lib.hid h2
  have ST2 := Lib.hid st2
  clear h2 st2
  go_wp2
  go_ret
  exact ⟨rfl, col2, ob2, cap2, fv2, cs2, gn, H2.out.on (by omega), ST2.out⟩
set_option maxRecDepth 100000 in
set_option maxHeartbeats 2000000 in
theorem step_short (h : PSx Tryz.prog w B col pb ob cap len s st i fv gb cs gn) (hl : len = st.fs.length) (hI : Inv st i) (hi : i < s.size) (hs : s.size ≤ 100000) (m : Int) (hm : w.cell? ⟨0, 0, none⟩ = some (.int .i64 m)) (hB : 0 < B) (hc : s.data.toList.getD i 0 = 92) (hn : ¬ i + 1 < s.size) :
    Calls Tryz.prog 78 #[.pointer (some ⟨pb, 0, none⟩), .int .i64 (i : Int)] w fun e w' => e = .returned (.int .i64 ((i + 1 : Nat) : Int)) ∧ StepPost B pb s gb w col (st.write [s.data.toList.getD i 0]) (i + 1) w' := by
  have h17 := hI.2.2.2
  have h1 := hI.2.2.1
  have c0 := h.hp.cell 0
  obtain ⟨f, r, hfs⟩ : ∃ f r, st.fs = f :: r := by
    match hq : st.fs, hI.2.2.1 with
    | f :: r, _ => exact ⟨f, r, rfl⟩
    | [], hq2 => simp at hq2
  have hftx : f.row.tx.length ≤ 100000 := by
    have := hI.1
    rw [hfs, wtFs_cons] at this
    unfold wtF wtR at this
    omega
  have hflt : st.faults.length ≤ 10000000 := by have := hI.2.1; omega
  have HLR : Hid (len = r.length + 1) := by unfold Hid; rw [hl, hfs]; rfl
  have hr17 : r.length ≤ 17 := by have := HLR.out; omega
  have rz : (s.extract i s.size).size = s.size - i := by simp
  have rz1 : 0 < (s.extract i s.size).size := by omega
  have rz2 : (s.extract i s.size).size ≤ 100000 := by omega
  have G0 : Hid ((s.extract i s.size)[0]'rz1 = s.data.toList.getD i 0) := rest_get (s := s) (i := i) 0 rz1
  have RL := Lib.hid (rest_list s i)
  have q92 : ((((s.extract i s.size)[0]'rz1).toNat : Int) == 92) = true := by
    rw [G0.out]; exact isB (d := 92) rfl hc
  have q96 : ((((s.extract i s.size)[0]'rz1).toNat : Int) == 96) = false := by
    rw [G0.out]; exact neB (d := 96) rfl (by rw [hc]; decide)
  have q93 : ((((s.extract i s.size)[0]'rz1).toNat : Int) == 93) = false := by
    rw [G0.out]; exact neB (d := 93) rfl (by rw [hc]; decide)
  have q42 : ((((s.extract i s.size)[0]'rz1).toNat : Int) == 42) = false := by
    rw [G0.out]; exact neB (d := 42) rfl (by rw [hc]; decide)
  have q95 : ((((s.extract i s.size)[0]'rz1).toNat : Int) == 95) = false := by
    rw [G0.out]; exact neB (d := 95) rfl (by rw [hc]; decide)
  have p60 : ∀ w, Calls Tryz.prog 40 #[.string (s.extract i s.size), .string ⟨#[60, 60]⟩] w fun e w' => e = .returned (.bool false) ∧ w' = w := fun w => by
    have := Tryz.strings_HasPrefix (s.extract i s.size) ⟨#[60, 60]⟩ w
    rw [pre_hasPrefix, RL.out, show (ByteArray.mk #[60, 60]).data.toList = [60, 60] from rfl, pre_ne (by simpa using hi) (by rw [hc]; decide)] at this
    exact this
  have p40 : ∀ w, Calls Tryz.prog 40 #[.string (s.extract i s.size), .string ⟨#[40, 40]⟩] w fun e w' => e = .returned (.bool false) ∧ w' = w := fun w => by
    have := Tryz.strings_HasPrefix (s.extract i s.size) ⟨#[40, 40]⟩ w
    rw [pre_hasPrefix, RL.out, show (ByteArray.mk #[40, 40]).data.toList = [40, 40] from rfl, pre_ne (by simpa using hi) (by rw [hc]; decide)] at this
    exact this
  have p94 : ∀ w, Calls Tryz.prog 40 #[.string (s.extract i s.size), .string ⟨#[94, 91]⟩] w fun e w' => e = .returned (.bool false) ∧ w' = w := fun w => by
    have := Tryz.strings_HasPrefix (s.extract i s.size) ⟨#[94, 91]⟩ w
    rw [pre_hasPrefix, RL.out, show (ByteArray.mk #[94, 91]).data.toList = [94, 91] from rfl, pre_ne (by simpa using hi) (by rw [hc]; decide)] at this
    exact this
  have e1 : IntKind.i64.wrap ((i : Int) + 1) = ((i + 1 : Nat) : Int) := by rw [show (i : Int) + 1 = ((i + 1 : Nat) : Int) by omega]; exact IntWalk.i64_in _ (by omega)
  have RX : Hid (((s.extract i s.size).extract 0 1).data.toList = [s.data.toList.getD i 0]) := by
    unfold Hid
    rw [cut_list, rest_list, List.drop_drop]
    have hlt : i < s.data.toList.length := by simpa using hi
    rw [Nat.add_zero, List.drop_eq_getElem_cons hlt, List.getD_eq_getElem?_getD, List.getElem?_eq_getElem hlt]
    rfl
  have rz3 : ((s.extract i s.size).size : Int) ≤ 1 := by omega
  have C0 := Lib.hid c0
  have H := Lib.hid h
  have HPD := Lib.hid (fun k => PSx.drewN h k)
  have HFS := Lib.hid hfs
  have HL := Lib.hid hl
  have HI := Lib.hid hI
  have rz4 : (1 : Int) ≤ ((s.extract i s.size).size : Int) := by omega
  clear hc hn hm hI h1 h17 h hl hfs G0 RL
  obtain ⟨R, hR⟩ : ∃ R, s.extract i s.size = R := ⟨_, rfl⟩
  rw [hR] at rz
  have RZ := Lib.hid rz
  clear rz
  simp only [hR] at rz1 rz2 q92 q96 q93 q42 q95 p60 p40 p94 RX rz4 rz3
  go_enter Tryz.func78, Tryz.ntmps78
  go_wp2_with (first
    | (go_at_call 40; (with_reducible refine (p60 _).mono ?_); rintro e w' ⟨rfl, rfl⟩)
    | (go_at_call 40; (with_reducible refine (p40 _).mono ?_); rintro e w' ⟨rfl, rfl⟩)
    | (go_at_call 40; (with_reducible refine (p94 _).mono ?_); rintro e w' ⟨rfl, rfl⟩)
    | fail)
  refine wp_region_held_drew (S := (fun w' => w'.cell? ⟨pb, 0, none⟩ = some (.string s))) (by kernel_rfl) ?_ (fun hHeld0 => ?_)
  · (try dsimp only)
    first | exact C0.out | exact z0
  refine wpAnyH_take (i := 0) (v := ?_) rfl (by kernel_rfl) (by kernel_rfl) (by kernel_rfl) (fun _ _ _ h => h) (Or.inl ⟨by kernel_rfl, ?_⟩) (by assumption) ?_
  rotate_left
  · (intro w hSw; (try dsimp only at hSw); go_simp; (first | done | with_reducible rfl))
  (try simp only [Act.put, List.setIfInBounds_toArray, List.set_cons_zero, List.set_cons_succ])
  refine wpAnyH_take (i := 4) (v := ?_) rfl (by kernel_rfl) (by kernel_rfl) (by kernel_rfl) (fun _ _ _ h => h) (Or.inl ⟨by kernel_rfl, ?_⟩) (by assumption) ?_
  rotate_left
  · (intro w hSw; (try dsimp only at hSw); go_simp; (first | done | with_reducible rfl))
  (try simp only [Act.put, List.setIfInBounds_toArray, List.set_cons_zero, List.set_cons_succ])
  refine wpAnyH_take (i := 5) (v := ?_) rfl (by kernel_rfl) (by kernel_rfl) (by kernel_rfl) (fun _ _ _ h => h) (Or.inl ⟨by kernel_rfl, ?_⟩) (by assumption) ?_
  rotate_left
  · (intro w hSw; (try dsimp only at hSw); go_simp; (first | done | with_reducible rfl))
  (try simp only [Act.put, List.setIfInBounds_toArray, List.set_cons_zero, List.set_cons_succ])
  refine wpAnyH_ready (rs := [1]) (by kernel_rfl) (by simp) ?_
  refine AllReadyH.cons rfl (fun K hK => ?_) AllReadyH.nil
  go_simp
  refine (top_any (n := r.length) (by rw [← HLR.out]; exact HPD.out _) (by omega)).mono ?_
  rintro e w3 ⟨rfl, kk, rfl⟩
  go_wp2_with fail
  refine hK.out _ _ ?_ (fun hHeld1 => ?_)
  · (try dsimp only)
    first | exact C0.out | exact z0
  clear hK K hHeld0
  (try simp only [Act.put, List.setIfInBounds_toArray, List.set_cons_zero, List.set_cons_succ])
  refine wpAnyH_take (i := 2) (v := ?_) rfl (by kernel_rfl) (by kernel_rfl) (by kernel_rfl) (fun _ _ _ h => h) (Or.inl ⟨by kernel_rfl, ?_⟩) (by assumption) ?_
  rotate_left
  · (intro w hSw; (try dsimp only at hSw); go_simp; (first | done | with_reducible rfl))
  (try simp only [Act.put, List.setIfInBounds_toArray, List.set_cons_zero, List.set_cons_succ])
  refine wpAnyH_take (i := 3) (v := ?_) rfl (by kernel_rfl) (by kernel_rfl) (by kernel_rfl) (fun _ _ _ h => h) (Or.inl ⟨by kernel_rfl, ?_⟩) (by assumption) ?_
  rotate_left
  · (intro w hSw; (try dsimp only at hSw); go_simp; (first | done | with_reducible rfl))
  (try simp only [Act.put, List.setIfInBounds_toArray, List.set_cons_zero, List.set_cons_succ])
  refine wpAnyH_ready (rs := [6]) (by kernel_rfl) (by simp) ?_
  refine AllReadyH.cons rfl (fun K hK => ?_) AllReadyH.nil
  go_simp
  refine (writeTop_any (HPD.out _) HFS.out (R.extract 0 1) (by simp; omega) (by omega)).mono ?_
  rintro e w4 ⟨rfl, col4, cs4, h4, st4⟩
  have st5 := st4.undrew
  have H4 := Lib.hid h4
  have ST4 := Lib.hid st5
  have z0 := h4.hp.cell 0
  clear h4 st4 st5
  go_wp2_with fail
  refine hK.out _ _ ?_ (fun hHeld2 => ?_)
  · (try dsimp only)
    first | exact C0.out | exact z0
  clear hK K hHeld1
  (try simp only [Act.put, List.setIfInBounds_toArray, List.set_cons_zero, List.set_cons_succ])
  refine wpAnyH_done (by kernel_rfl) ?_ _
  go_wp2
  go_ret
  refine ⟨rfl, col4, ob, cap, fv, cs4, gn, ?_, ST4.out⟩
  have e : (R.extract 0 1).data.toList = [s.data.toList.getD i 0] := RX.out
  have H5 := H4.out
  rw [e] at H5
  rw [writeLen, ← HL.out]
  exact H5.on (by omega)
set_option maxRecDepth 100000 in
set_option maxHeartbeats 2000000 in
theorem step_back (h : PSx Tryz.prog w B col pb ob cap len s st i fv gb cs gn) (hl : len = st.fs.length) (hI : Inv st i) (hi : i < s.size) (hs : s.size ≤ 100000) (m : Int) (hm : w.cell? ⟨0, 0, none⟩ = some (.int .i64 m)) (hB : 0 < B) (hc : s.data.toList.getD i 0 = 92) (hn : i + 1 < s.size) (he : escB (s.data.toList.getD (i + 1) 0) = false) :
    Calls Tryz.prog 78 #[.pointer (some ⟨pb, 0, none⟩), .int .i64 (i : Int)] w fun e w' => e = .returned (.int .i64 ((i + 1 : Nat) : Int)) ∧ StepPost B pb s gb w col (st.write [s.data.toList.getD i 0]) (i + 1) w' := by
  have h17 := hI.2.2.2
  have h1 := hI.2.2.1
  have c0 := h.hp.cell 0
  obtain ⟨f, r, hfs⟩ : ∃ f r, st.fs = f :: r := by
    match hq : st.fs, hI.2.2.1 with
    | f :: r, _ => exact ⟨f, r, rfl⟩
    | [], hq2 => simp at hq2
  have hftx : f.row.tx.length ≤ 100000 := by
    have := hI.1
    rw [hfs, wtFs_cons] at this
    unfold wtF wtR at this
    omega
  have hflt : st.faults.length ≤ 10000000 := by have := hI.2.1; omega
  have HLR : Hid (len = r.length + 1) := by unfold Hid; rw [hl, hfs]; rfl
  have hr17 : r.length ≤ 17 := by have := HLR.out; omega
  have rz : (s.extract i s.size).size = s.size - i := by simp
  have rz1 : 0 < (s.extract i s.size).size := by omega
  have rz2 : (s.extract i s.size).size ≤ 100000 := by omega
  have G0 : Hid ((s.extract i s.size)[0]'rz1 = s.data.toList.getD i 0) := rest_get (s := s) (i := i) 0 rz1
  have RL := Lib.hid (rest_list s i)
  have q92 : ((((s.extract i s.size)[0]'rz1).toNat : Int) == 92) = true := by
    rw [G0.out]; exact isB (d := 92) rfl hc
  have q96 : ((((s.extract i s.size)[0]'rz1).toNat : Int) == 96) = false := by
    rw [G0.out]; exact neB (d := 96) rfl (by rw [hc]; decide)
  have q93 : ((((s.extract i s.size)[0]'rz1).toNat : Int) == 93) = false := by
    rw [G0.out]; exact neB (d := 93) rfl (by rw [hc]; decide)
  have q42 : ((((s.extract i s.size)[0]'rz1).toNat : Int) == 42) = false := by
    rw [G0.out]; exact neB (d := 42) rfl (by rw [hc]; decide)
  have q95 : ((((s.extract i s.size)[0]'rz1).toNat : Int) == 95) = false := by
    rw [G0.out]; exact neB (d := 95) rfl (by rw [hc]; decide)
  have p60 : ∀ w, Calls Tryz.prog 40 #[.string (s.extract i s.size), .string ⟨#[60, 60]⟩] w fun e w' => e = .returned (.bool false) ∧ w' = w := fun w => by
    have := Tryz.strings_HasPrefix (s.extract i s.size) ⟨#[60, 60]⟩ w
    rw [pre_hasPrefix, RL.out, show (ByteArray.mk #[60, 60]).data.toList = [60, 60] from rfl, pre_ne (by simpa using hi) (by rw [hc]; decide)] at this
    exact this
  have p40 : ∀ w, Calls Tryz.prog 40 #[.string (s.extract i s.size), .string ⟨#[40, 40]⟩] w fun e w' => e = .returned (.bool false) ∧ w' = w := fun w => by
    have := Tryz.strings_HasPrefix (s.extract i s.size) ⟨#[40, 40]⟩ w
    rw [pre_hasPrefix, RL.out, show (ByteArray.mk #[40, 40]).data.toList = [40, 40] from rfl, pre_ne (by simpa using hi) (by rw [hc]; decide)] at this
    exact this
  have p94 : ∀ w, Calls Tryz.prog 40 #[.string (s.extract i s.size), .string ⟨#[94, 91]⟩] w fun e w' => e = .returned (.bool false) ∧ w' = w := fun w => by
    have := Tryz.strings_HasPrefix (s.extract i s.size) ⟨#[94, 91]⟩ w
    rw [pre_hasPrefix, RL.out, show (ByteArray.mk #[94, 91]).data.toList = [94, 91] from rfl, pre_ne (by simpa using hi) (by rw [hc]; decide)] at this
    exact this
  have e1 : IntKind.i64.wrap ((i : Int) + 1) = ((i + 1 : Nat) : Int) := by rw [show (i : Int) + 1 = ((i + 1 : Nat) : Int) by omega]; exact IntWalk.i64_in _ (by omega)
  have RX : Hid (((s.extract i s.size).extract 0 1).data.toList = [s.data.toList.getD i 0]) := by
    unfold Hid
    rw [cut_list, rest_list, List.drop_drop]
    have hlt : i < s.data.toList.length := by simpa using hi
    rw [Nat.add_zero, List.drop_eq_getElem_cons hlt, List.getD_eq_getElem?_getD, List.getElem?_eq_getElem hlt]
    rfl
  have rz3 : 1 < (s.extract i s.size).size := by omega
  have ce : ∀ w, Calls Tryz.prog 96 #[.int .u8 (((s.extract i s.size)[1]'rz3).toNat : Int)] w fun e w' => e = .returned (.bool false) ∧ w = w' := fun w => by
    have := escaped_any ((s.extract i s.size)[1]'rz3) w
    rw [rest_get 1 rz3, he] at this
    rw [rest_get 1 rz3]
    exact this
  have C0 := Lib.hid c0
  have H := Lib.hid h
  have HPD := Lib.hid (fun k => PSx.drewN h k)
  have HFS := Lib.hid hfs
  have HL := Lib.hid hl
  have HI := Lib.hid hI
  have rz4 : (1 : Int) ≤ ((s.extract i s.size).size : Int) := by omega
  clear hc he hm hI h1 h17 h hl hfs G0 RL
  obtain ⟨R, hR⟩ : ∃ R, s.extract i s.size = R := ⟨_, rfl⟩
  rw [hR] at rz
  have RZ := Lib.hid rz
  clear rz
  simp only [hR] at rz1 rz2 q92 q96 q93 q42 q95 p60 p40 p94 RX rz4 rz3 ce
  go_enter Tryz.func78, Tryz.ntmps78
  go_wp2_with (first
    | (go_at_call 40; (with_reducible refine (p60 _).mono ?_); rintro e w' ⟨rfl, rfl⟩)
    | (go_at_call 40; (with_reducible refine (p40 _).mono ?_); rintro e w' ⟨rfl, rfl⟩)
    | (go_at_call 40; (with_reducible refine (p94 _).mono ?_); rintro e w' ⟨rfl, rfl⟩)
    | (go_at_call 96; refine (ce _).mono ?_; rintro e w' ⟨rfl, rfl⟩)
    | fail)
  refine wp_region_held_drew (S := (fun w' => w'.cell? ⟨pb, 0, none⟩ = some (.string s))) (by kernel_rfl) ?_ (fun hHeld0 => ?_)
  · (try dsimp only)
    first | exact C0.out | exact z0
  refine wpAnyH_take (i := 0) (v := ?_) rfl (by kernel_rfl) (by kernel_rfl) (by kernel_rfl) (fun _ _ _ h => h) (Or.inl ⟨by kernel_rfl, ?_⟩) (by assumption) ?_
  rotate_left
  · (intro w hSw; (try dsimp only at hSw); go_simp; (first | done | with_reducible rfl))
  (try simp only [Act.put, List.setIfInBounds_toArray, List.set_cons_zero, List.set_cons_succ])
  refine wpAnyH_take (i := 4) (v := ?_) rfl (by kernel_rfl) (by kernel_rfl) (by kernel_rfl) (fun _ _ _ h => h) (Or.inl ⟨by kernel_rfl, ?_⟩) (by assumption) ?_
  rotate_left
  · (intro w hSw; (try dsimp only at hSw); go_simp; (first | done | with_reducible rfl))
  (try simp only [Act.put, List.setIfInBounds_toArray, List.set_cons_zero, List.set_cons_succ])
  refine wpAnyH_take (i := 5) (v := ?_) rfl (by kernel_rfl) (by kernel_rfl) (by kernel_rfl) (fun _ _ _ h => h) (Or.inl ⟨by kernel_rfl, ?_⟩) (by assumption) ?_
  rotate_left
  · (intro w hSw; (try dsimp only at hSw); go_simp; (first | done | with_reducible rfl))
  (try simp only [Act.put, List.setIfInBounds_toArray, List.set_cons_zero, List.set_cons_succ])
  refine wpAnyH_ready (rs := [1]) (by kernel_rfl) (by simp) ?_
  refine AllReadyH.cons rfl (fun K hK => ?_) AllReadyH.nil
  go_simp
  refine (top_any (n := r.length) (by rw [← HLR.out]; exact HPD.out _) (by omega)).mono ?_
  rintro e w3 ⟨rfl, kk, rfl⟩
  go_wp2_with fail
  refine hK.out _ _ ?_ (fun hHeld1 => ?_)
  · (try dsimp only)
    first | exact C0.out | exact z0
  clear hK K hHeld0
  (try simp only [Act.put, List.setIfInBounds_toArray, List.set_cons_zero, List.set_cons_succ])
  refine wpAnyH_take (i := 2) (v := ?_) rfl (by kernel_rfl) (by kernel_rfl) (by kernel_rfl) (fun _ _ _ h => h) (Or.inl ⟨by kernel_rfl, ?_⟩) (by assumption) ?_
  rotate_left
  · (intro w hSw; (try dsimp only at hSw); go_simp; (first | done | with_reducible rfl))
  (try simp only [Act.put, List.setIfInBounds_toArray, List.set_cons_zero, List.set_cons_succ])
  refine wpAnyH_take (i := 3) (v := ?_) rfl (by kernel_rfl) (by kernel_rfl) (by kernel_rfl) (fun _ _ _ h => h) (Or.inl ⟨by kernel_rfl, ?_⟩) (by assumption) ?_
  rotate_left
  · (intro w hSw; (try dsimp only at hSw); go_simp; (first | done | with_reducible rfl))
  (try simp only [Act.put, List.setIfInBounds_toArray, List.set_cons_zero, List.set_cons_succ])
  refine wpAnyH_ready (rs := [6]) (by kernel_rfl) (by simp) ?_
  refine AllReadyH.cons rfl (fun K hK => ?_) AllReadyH.nil
  go_simp
  refine (writeTop_any (HPD.out _) HFS.out (R.extract 0 1) (by simp; omega) (by omega)).mono ?_
  rintro e w4 ⟨rfl, col4, cs4, h4, st4⟩
  have st5 := st4.undrew
  have H4 := Lib.hid h4
  have ST4 := Lib.hid st5
  have z0 := h4.hp.cell 0
  clear h4 st4 st5
  go_wp2_with fail
  refine hK.out _ _ ?_ (fun hHeld2 => ?_)
  · (try dsimp only)
    first | exact C0.out | exact z0
  clear hK K hHeld1
  (try simp only [Act.put, List.setIfInBounds_toArray, List.set_cons_zero, List.set_cons_succ])
  refine wpAnyH_done (by kernel_rfl) ?_ _
  go_wp2
  go_ret
  refine ⟨rfl, col4, ob, cap, fv, cs4, gn, ?_, ST4.out⟩
  have e : (R.extract 0 1).data.toList = [s.data.toList.getD i 0] := RX.out
  have H5 := H4.out
  rw [e] at H5
  rw [writeLen, ← HL.out]
  exact H5.on (by omega)
set_option maxRecDepth 100000 in
set_option maxHeartbeats 2000000 in
theorem step_last (h : PSx Tryz.prog w B col pb ob cap len s st i fv gb cs gn) (hl : len = st.fs.length) (hI : Inv st i) (hi : i < s.size) (hs : s.size ≤ 100000) (m : Int) (hm : w.cell? ⟨0, 0, none⟩ = some (.int .i64 m)) (hB : 0 < B) (hc : s.data.toList.getD i 0 = 93) (hn : lastK 6 st.fs = 0) :
    Calls Tryz.prog 78 #[.pointer (some ⟨pb, 0, none⟩), .int .i64 (i : Int)] w fun e w' => e = .returned (.int .i64 ((i + 1 : Nat) : Int)) ∧ StepPost B pb s gb w col (st.write [s.data.toList.getD i 0]) (i + 1) w' := by
  have h17 := hI.2.2.2
  have h1 := hI.2.2.1
  have c0 := h.hp.cell 0
  obtain ⟨f, r, hfs⟩ : ∃ f r, st.fs = f :: r := by
    match hq : st.fs, hI.2.2.1 with
    | f :: r, _ => exact ⟨f, r, rfl⟩
    | [], hq2 => simp at hq2
  have hftx : f.row.tx.length ≤ 100000 := by
    have := hI.1
    rw [hfs, wtFs_cons] at this
    unfold wtF wtR at this
    omega
  have hflt : st.faults.length ≤ 10000000 := by have := hI.2.1; omega
  have HLR : Hid (len = r.length + 1) := by unfold Hid; rw [hl, hfs]; rfl
  have hr17 : r.length ≤ 17 := by have := HLR.out; omega
  have rz : (s.extract i s.size).size = s.size - i := by simp
  have rz1 : 0 < (s.extract i s.size).size := by omega
  have rz2 : (s.extract i s.size).size ≤ 100000 := by omega
  have G0 : Hid ((s.extract i s.size)[0]'rz1 = s.data.toList.getD i 0) := rest_get (s := s) (i := i) 0 rz1
  have RL := Lib.hid (rest_list s i)
  have q92 : ((((s.extract i s.size)[0]'rz1).toNat : Int) == 92) = false := by
    rw [G0.out]; exact neB (d := 92) rfl (by rw [hc]; decide)
  have q96 : ((((s.extract i s.size)[0]'rz1).toNat : Int) == 96) = false := by
    rw [G0.out]; exact neB (d := 96) rfl (by rw [hc]; decide)
  have q93 : ((((s.extract i s.size)[0]'rz1).toNat : Int) == 93) = true := by
    rw [G0.out]; exact isB (d := 93) rfl hc
  have q42 : ((((s.extract i s.size)[0]'rz1).toNat : Int) == 42) = false := by
    rw [G0.out]; exact neB (d := 42) rfl (by rw [hc]; decide)
  have q95 : ((((s.extract i s.size)[0]'rz1).toNat : Int) == 95) = false := by
    rw [G0.out]; exact neB (d := 95) rfl (by rw [hc]; decide)
  have p60 : ∀ w, Calls Tryz.prog 40 #[.string (s.extract i s.size), .string ⟨#[60, 60]⟩] w fun e w' => e = .returned (.bool false) ∧ w' = w := fun w => by
    have := Tryz.strings_HasPrefix (s.extract i s.size) ⟨#[60, 60]⟩ w
    rw [pre_hasPrefix, RL.out, show (ByteArray.mk #[60, 60]).data.toList = [60, 60] from rfl, pre_ne (by simpa using hi) (by rw [hc]; decide)] at this
    exact this
  have p40 : ∀ w, Calls Tryz.prog 40 #[.string (s.extract i s.size), .string ⟨#[40, 40]⟩] w fun e w' => e = .returned (.bool false) ∧ w' = w := fun w => by
    have := Tryz.strings_HasPrefix (s.extract i s.size) ⟨#[40, 40]⟩ w
    rw [pre_hasPrefix, RL.out, show (ByteArray.mk #[40, 40]).data.toList = [40, 40] from rfl, pre_ne (by simpa using hi) (by rw [hc]; decide)] at this
    exact this
  have p94 : ∀ w, Calls Tryz.prog 40 #[.string (s.extract i s.size), .string ⟨#[94, 91]⟩] w fun e w' => e = .returned (.bool false) ∧ w' = w := fun w => by
    have := Tryz.strings_HasPrefix (s.extract i s.size) ⟨#[94, 91]⟩ w
    rw [pre_hasPrefix, RL.out, show (ByteArray.mk #[94, 91]).data.toList = [94, 91] from rfl, pre_ne (by simpa using hi) (by rw [hc]; decide)] at this
    exact this
  have e1 : IntKind.i64.wrap ((i : Int) + 1) = ((i + 1 : Nat) : Int) := by rw [show (i : Int) + 1 = ((i + 1 : Nat) : Int) by omega]; exact IntWalk.i64_in _ (by omega)
  have RX : Hid (((s.extract i s.size).extract 0 1).data.toList = [s.data.toList.getD i 0]) := by
    unfold Hid
    rw [cut_list, rest_list, List.drop_drop]
    have hlt : i < s.data.toList.length := by simpa using hi
    rw [Nat.add_zero, List.drop_eq_getElem_cons hlt, List.getD_eq_getElem?_getD, List.getElem?_eq_getElem hlt]
    rfl
  have cl := last_any h hl (by omega) (by omega) 6
  rw [hn] at cl
  have C0 := Lib.hid c0
  have H := Lib.hid h
  have HPD := Lib.hid (fun k => PSx.drewN h k)
  have HFS := Lib.hid hfs
  have HL := Lib.hid hl
  have HI := Lib.hid hI
  have rz4 : (1 : Int) ≤ ((s.extract i s.size).size : Int) := by omega
  clear hc hn hm hI h1 h17 h hl hfs G0 RL
  obtain ⟨R, hR⟩ : ∃ R, s.extract i s.size = R := ⟨_, rfl⟩
  rw [hR] at rz
  have RZ := Lib.hid rz
  clear rz
  simp only [hR] at rz1 rz2 q92 q96 q93 q42 q95 p60 p40 p94 RX rz4
  go_enter Tryz.func78, Tryz.ntmps78
  go_wp2_with (first
    | (go_at_call 40; (with_reducible refine (p60 _).mono ?_); rintro e w' ⟨rfl, rfl⟩)
    | (go_at_call 40; (with_reducible refine (p40 _).mono ?_); rintro e w' ⟨rfl, rfl⟩)
    | (go_at_call 40; (with_reducible refine (p94 _).mono ?_); rintro e w' ⟨rfl, rfl⟩)
    | (go_at_call 105; refine cl.mono ?_; rintro e w' ⟨rfl, rfl⟩)
    | fail)
  refine wp_region_held_drew (S := (fun w' => w'.cell? ⟨pb, 0, none⟩ = some (.string s))) (by kernel_rfl) ?_ (fun hHeld0 => ?_)
  · (try dsimp only)
    first | exact C0.out | exact z0
  refine wpAnyH_take (i := 0) (v := ?_) rfl (by kernel_rfl) (by kernel_rfl) (by kernel_rfl) (fun _ _ _ h => h) (Or.inl ⟨by kernel_rfl, ?_⟩) (by assumption) ?_
  rotate_left
  · (intro w hSw; (try dsimp only at hSw); go_simp; (first | done | with_reducible rfl))
  (try simp only [Act.put, List.setIfInBounds_toArray, List.set_cons_zero, List.set_cons_succ])
  refine wpAnyH_take (i := 4) (v := ?_) rfl (by kernel_rfl) (by kernel_rfl) (by kernel_rfl) (fun _ _ _ h => h) (Or.inl ⟨by kernel_rfl, ?_⟩) (by assumption) ?_
  rotate_left
  · (intro w hSw; (try dsimp only at hSw); go_simp; (first | done | with_reducible rfl))
  (try simp only [Act.put, List.setIfInBounds_toArray, List.set_cons_zero, List.set_cons_succ])
  refine wpAnyH_take (i := 5) (v := ?_) rfl (by kernel_rfl) (by kernel_rfl) (by kernel_rfl) (fun _ _ _ h => h) (Or.inl ⟨by kernel_rfl, ?_⟩) (by assumption) ?_
  rotate_left
  · (intro w hSw; (try dsimp only at hSw); go_simp; (first | done | with_reducible rfl))
  (try simp only [Act.put, List.setIfInBounds_toArray, List.set_cons_zero, List.set_cons_succ])
  refine wpAnyH_ready (rs := [1]) (by kernel_rfl) (by simp) ?_
  refine AllReadyH.cons rfl (fun K hK => ?_) AllReadyH.nil
  go_simp
  refine (top_any (n := r.length) (by rw [← HLR.out]; exact HPD.out _) (by omega)).mono ?_
  rintro e w3 ⟨rfl, kk, rfl⟩
  go_wp2_with fail
  refine hK.out _ _ ?_ (fun hHeld1 => ?_)
  · (try dsimp only)
    first | exact C0.out | exact z0
  clear hK K hHeld0
  (try simp only [Act.put, List.setIfInBounds_toArray, List.set_cons_zero, List.set_cons_succ])
  refine wpAnyH_take (i := 2) (v := ?_) rfl (by kernel_rfl) (by kernel_rfl) (by kernel_rfl) (fun _ _ _ h => h) (Or.inl ⟨by kernel_rfl, ?_⟩) (by assumption) ?_
  rotate_left
  · (intro w hSw; (try dsimp only at hSw); go_simp; (first | done | with_reducible rfl))
  (try simp only [Act.put, List.setIfInBounds_toArray, List.set_cons_zero, List.set_cons_succ])
  refine wpAnyH_take (i := 3) (v := ?_) rfl (by kernel_rfl) (by kernel_rfl) (by kernel_rfl) (fun _ _ _ h => h) (Or.inl ⟨by kernel_rfl, ?_⟩) (by assumption) ?_
  rotate_left
  · (intro w hSw; (try dsimp only at hSw); go_simp; (first | done | with_reducible rfl))
  (try simp only [Act.put, List.setIfInBounds_toArray, List.set_cons_zero, List.set_cons_succ])
  refine wpAnyH_ready (rs := [6]) (by kernel_rfl) (by simp) ?_
  refine AllReadyH.cons rfl (fun K hK => ?_) AllReadyH.nil
  go_simp
  refine (writeTop_any (HPD.out _) HFS.out (R.extract 0 1) (by simp; omega) (by omega)).mono ?_
  rintro e w4 ⟨rfl, col4, cs4, h4, st4⟩
  have st5 := st4.undrew
  have H4 := Lib.hid h4
  have ST4 := Lib.hid st5
  have z0 := h4.hp.cell 0
  clear h4 st4 st5
  go_wp2_with fail
  refine hK.out _ _ ?_ (fun hHeld2 => ?_)
  · (try dsimp only)
    first | exact C0.out | exact z0
  clear hK K hHeld1
  (try simp only [Act.put, List.setIfInBounds_toArray, List.set_cons_zero, List.set_cons_succ])
  refine wpAnyH_done (by kernel_rfl) ?_ _
  go_wp2
  go_ret
  refine ⟨rfl, col4, ob, cap, fv, cs4, gn, ?_, ST4.out⟩
  have e : (R.extract 0 1).data.toList = [s.data.toList.getD i 0] := RX.out
  have H5 := H4.out
  rw [e] at H5
  rw [writeLen, ← HL.out]
  exact H5.on (by omega)
set_option maxRecDepth 100000 in
set_option maxHeartbeats 2000000 in
theorem step_text (h : PSx Tryz.prog w B col pb ob cap len s st i fv gb cs gn) (hl : len = st.fs.length) (hI : Inv st i) (hi : i < s.size) (hs : s.size ≤ 100000) (m : Int) (hm : w.cell? ⟨0, 0, none⟩ = some (.int .i64 m)) (hB : 0 < B) (n92 : s.data.toList.getD i 0 ≠ 92) (n96 : s.data.toList.getD i 0 ≠ 96) (n93 : s.data.toList.getD i 0 ≠ 93) (n42 : s.data.toList.getD i 0 ≠ 42) (n95 : s.data.toList.getD i 0 ≠ 95) (m60 : [60, 60].isPrefixOf (s.data.toList.drop i) = false) (m40 : [40, 40].isPrefixOf (s.data.toList.drop i) = false) (m94 : [94, 91].isPrefixOf (s.data.toList.drop i) = false) :
    Calls Tryz.prog 78 #[.pointer (some ⟨pb, 0, none⟩), .int .i64 (i : Int)] w fun e w' => e = .returned (.int .i64 ((i + 1 : Nat) : Int)) ∧ StepPost B pb s gb w col (st.write [s.data.toList.getD i 0]) (i + 1) w' := by
  have h17 := hI.2.2.2
  have h1 := hI.2.2.1
  have c0 := h.hp.cell 0
  obtain ⟨f, r, hfs⟩ : ∃ f r, st.fs = f :: r := by
    match hq : st.fs, hI.2.2.1 with
    | f :: r, _ => exact ⟨f, r, rfl⟩
    | [], hq2 => simp at hq2
  have hftx : f.row.tx.length ≤ 100000 := by
    have := hI.1
    rw [hfs, wtFs_cons] at this
    unfold wtF wtR at this
    omega
  have hflt : st.faults.length ≤ 10000000 := by have := hI.2.1; omega
  have HLR : Hid (len = r.length + 1) := by unfold Hid; rw [hl, hfs]; rfl
  have hr17 : r.length ≤ 17 := by have := HLR.out; omega
  have rz : (s.extract i s.size).size = s.size - i := by simp
  have rz1 : 0 < (s.extract i s.size).size := by omega
  have rz2 : (s.extract i s.size).size ≤ 100000 := by omega
  have G0 : Hid ((s.extract i s.size)[0]'rz1 = s.data.toList.getD i 0) := rest_get (s := s) (i := i) 0 rz1
  have RL := Lib.hid (rest_list s i)
  have q92 : ((((s.extract i s.size)[0]'rz1).toNat : Int) == 92) = false := by
    rw [G0.out]; exact neB (d := 92) rfl n92
  have q96 : ((((s.extract i s.size)[0]'rz1).toNat : Int) == 96) = false := by
    rw [G0.out]; exact neB (d := 96) rfl n96
  have q93 : ((((s.extract i s.size)[0]'rz1).toNat : Int) == 93) = false := by
    rw [G0.out]; exact neB (d := 93) rfl n93
  have q42 : ((((s.extract i s.size)[0]'rz1).toNat : Int) == 42) = false := by
    rw [G0.out]; exact neB (d := 42) rfl n42
  have q95 : ((((s.extract i s.size)[0]'rz1).toNat : Int) == 95) = false := by
    rw [G0.out]; exact neB (d := 95) rfl n95
  have p60 : ∀ w, Calls Tryz.prog 40 #[.string (s.extract i s.size), .string ⟨#[60, 60]⟩] w fun e w' => e = .returned (.bool false) ∧ w' = w := fun w => by
    have := Tryz.strings_HasPrefix (s.extract i s.size) ⟨#[60, 60]⟩ w
    rw [pre_hasPrefix, RL.out, show (ByteArray.mk #[60, 60]).data.toList = [60, 60] from rfl, m60] at this
    exact this
  have p40 : ∀ w, Calls Tryz.prog 40 #[.string (s.extract i s.size), .string ⟨#[40, 40]⟩] w fun e w' => e = .returned (.bool false) ∧ w' = w := fun w => by
    have := Tryz.strings_HasPrefix (s.extract i s.size) ⟨#[40, 40]⟩ w
    rw [pre_hasPrefix, RL.out, show (ByteArray.mk #[40, 40]).data.toList = [40, 40] from rfl, m40] at this
    exact this
  have p94 : ∀ w, Calls Tryz.prog 40 #[.string (s.extract i s.size), .string ⟨#[94, 91]⟩] w fun e w' => e = .returned (.bool false) ∧ w' = w := fun w => by
    have := Tryz.strings_HasPrefix (s.extract i s.size) ⟨#[94, 91]⟩ w
    rw [pre_hasPrefix, RL.out, show (ByteArray.mk #[94, 91]).data.toList = [94, 91] from rfl, m94] at this
    exact this
  have e1 : IntKind.i64.wrap ((i : Int) + 1) = ((i + 1 : Nat) : Int) := by rw [show (i : Int) + 1 = ((i + 1 : Nat) : Int) by omega]; exact IntWalk.i64_in _ (by omega)
  have RX : Hid (((s.extract i s.size).extract 0 1).data.toList = [s.data.toList.getD i 0]) := by
    unfold Hid
    rw [cut_list, rest_list, List.drop_drop]
    have hlt : i < s.data.toList.length := by simpa using hi
    rw [Nat.add_zero, List.drop_eq_getElem_cons hlt, List.getD_eq_getElem?_getD, List.getElem?_eq_getElem hlt]
    rfl
  have C0 := Lib.hid c0
  have H := Lib.hid h
  have HPD := Lib.hid (fun k => PSx.drewN h k)
  have HFS := Lib.hid hfs
  have HL := Lib.hid hl
  have HI := Lib.hid hI
  have rz4 : (1 : Int) ≤ ((s.extract i s.size).size : Int) := by omega
  clear n92 n96 n93 n42 n95 m60 m40 m94 hm hI h1 h17 h hl hfs G0 RL
  obtain ⟨R, hR⟩ : ∃ R, s.extract i s.size = R := ⟨_, rfl⟩
  rw [hR] at rz
  have RZ := Lib.hid rz
  clear rz
  simp only [hR] at rz1 rz2 q92 q96 q93 q42 q95 p60 p40 p94 RX rz4
  go_enter Tryz.func78, Tryz.ntmps78
  go_wp2_with (first
    | (go_at_call 40; (with_reducible refine (p60 _).mono ?_); rintro e w' ⟨rfl, rfl⟩)
    | (go_at_call 40; (with_reducible refine (p40 _).mono ?_); rintro e w' ⟨rfl, rfl⟩)
    | (go_at_call 40; (with_reducible refine (p94 _).mono ?_); rintro e w' ⟨rfl, rfl⟩)
    | fail)
  refine wp_region_held_drew (S := (fun w' => w'.cell? ⟨pb, 0, none⟩ = some (.string s))) (by kernel_rfl) ?_ (fun hHeld0 => ?_)
  · (try dsimp only)
    first | exact C0.out | exact z0
  refine wpAnyH_take (i := 0) (v := ?_) rfl (by kernel_rfl) (by kernel_rfl) (by kernel_rfl) (fun _ _ _ h => h) (Or.inl ⟨by kernel_rfl, ?_⟩) (by assumption) ?_
  rotate_left
  · (intro w hSw; (try dsimp only at hSw); go_simp; (first | done | with_reducible rfl))
  (try simp only [Act.put, List.setIfInBounds_toArray, List.set_cons_zero, List.set_cons_succ])
  refine wpAnyH_take (i := 4) (v := ?_) rfl (by kernel_rfl) (by kernel_rfl) (by kernel_rfl) (fun _ _ _ h => h) (Or.inl ⟨by kernel_rfl, ?_⟩) (by assumption) ?_
  rotate_left
  · (intro w hSw; (try dsimp only at hSw); go_simp; (first | done | with_reducible rfl))
  (try simp only [Act.put, List.setIfInBounds_toArray, List.set_cons_zero, List.set_cons_succ])
  refine wpAnyH_take (i := 5) (v := ?_) rfl (by kernel_rfl) (by kernel_rfl) (by kernel_rfl) (fun _ _ _ h => h) (Or.inl ⟨by kernel_rfl, ?_⟩) (by assumption) ?_
  rotate_left
  · (intro w hSw; (try dsimp only at hSw); go_simp; (first | done | with_reducible rfl))
  (try simp only [Act.put, List.setIfInBounds_toArray, List.set_cons_zero, List.set_cons_succ])
  refine wpAnyH_ready (rs := [1]) (by kernel_rfl) (by simp) ?_
  refine AllReadyH.cons rfl (fun K hK => ?_) AllReadyH.nil
  go_simp
  refine (top_any (n := r.length) (by rw [← HLR.out]; exact HPD.out _) (by omega)).mono ?_
  rintro e w3 ⟨rfl, kk, rfl⟩
  go_wp2_with fail
  refine hK.out _ _ ?_ (fun hHeld1 => ?_)
  · (try dsimp only)
    first | exact C0.out | exact z0
  clear hK K hHeld0
  (try simp only [Act.put, List.setIfInBounds_toArray, List.set_cons_zero, List.set_cons_succ])
  refine wpAnyH_take (i := 2) (v := ?_) rfl (by kernel_rfl) (by kernel_rfl) (by kernel_rfl) (fun _ _ _ h => h) (Or.inl ⟨by kernel_rfl, ?_⟩) (by assumption) ?_
  rotate_left
  · (intro w hSw; (try dsimp only at hSw); go_simp; (first | done | with_reducible rfl))
  (try simp only [Act.put, List.setIfInBounds_toArray, List.set_cons_zero, List.set_cons_succ])
  refine wpAnyH_take (i := 3) (v := ?_) rfl (by kernel_rfl) (by kernel_rfl) (by kernel_rfl) (fun _ _ _ h => h) (Or.inl ⟨by kernel_rfl, ?_⟩) (by assumption) ?_
  rotate_left
  · (intro w hSw; (try dsimp only at hSw); go_simp; (first | done | with_reducible rfl))
  (try simp only [Act.put, List.setIfInBounds_toArray, List.set_cons_zero, List.set_cons_succ])
  refine wpAnyH_ready (rs := [6]) (by kernel_rfl) (by simp) ?_
  refine AllReadyH.cons rfl (fun K hK => ?_) AllReadyH.nil
  go_simp
  refine (writeTop_any (HPD.out _) HFS.out (R.extract 0 1) (by simp; omega) (by omega)).mono ?_
  rintro e w4 ⟨rfl, col4, cs4, h4, st4⟩
  have st5 := st4.undrew
  have H4 := Lib.hid h4
  have ST4 := Lib.hid st5
  have z0 := h4.hp.cell 0
  clear h4 st4 st5
  go_wp2_with fail
  refine hK.out _ _ ?_ (fun hHeld2 => ?_)
  · (try dsimp only)
    first | exact C0.out | exact z0
  clear hK K hHeld1
  (try simp only [Act.put, List.setIfInBounds_toArray, List.set_cons_zero, List.set_cons_succ])
  refine wpAnyH_done (by kernel_rfl) ?_ _
  go_wp2
  go_ret
  refine ⟨rfl, col4, ob, cap, fv, cs4, gn, ?_, ST4.out⟩
  have e : (R.extract 0 1).data.toList = [s.data.toList.getD i 0] := RX.out
  have H5 := H4.out
  rw [e] at H5
  rw [writeLen, ← HL.out]
  exact H5.on (by omega)
/-- what stands at a place, and where it goes on -/
theorem step_any (h : PSx Tryz.prog w B col pb ob cap len s st i fv gb cs gn) (hl : len = st.fs.length) (hI : Inv st i) (hi : i < s.size) (hs : s.size ≤ 100000) (m : Int) (hm : w.cell? ⟨0, 0, none⟩ = some (.int .i64 m)) (hB : 0 < B) :
    Calls Tryz.prog 78 #[.pointer (some ⟨pb, 0, none⟩), .int .i64 (i : Int)] w fun e w' => e = .returned (.int .i64 (((st.step s.data.toList i).2 : Nat) : Int)) ∧ StepPost B pb s gb w col (st.step s.data.toList i).1 (st.step s.data.toList i).2 w' := by
  have hlen : s.data.toList.length = s.size := by simp
  have hil : i < s.data.toList.length := by omega
  have head : ∀ {a b : UInt8}, [a, b].isPrefixOf (s.data.toList.drop i) = true → s.data.toList.getD i 0 = a := fun {a b} hp => by
    rw [drop_cons hil, List.isPrefixOf] at hp
    simp only [Bool.and_eq_true, beq_iff_eq] at hp
    exact hp.1.symm
  unfold Pst.step
  rw [hlen]
  split
  · rename_i hc
    exact step_esc h hl hI hi hs m hm hB hc.1 hc.2.1 hc.2.2
  rename_i k92
  split
  · rename_i hc; exact step_code h hl hI hi hs m hm hB hc
  rename_i k96
  split
  · rename_i hp; exact step_ref h hl hI hi hs m hm hB (head hp) hp
  rename_i k60
  split
  · rename_i hp; exact step_term h hl hI hi hs m hm hB (head hp) hp
  rename_i k40
  split
  · rename_i hp
    cases hr : st.room with
    | true => exact step_note h hl hI hi hs m hm hB (head hp) hp hr
    | false => exact step_full h hl hI hi hs m hm hB (head hp) hp hr
  rename_i k94
  split
  · rename_i hc; exact step_shut h hl hI hi hs m hm hB hc.1 hc.2
  rename_i k93
  split
  · rename_i hc; exact step_starW h hl hI hi hs m hm hB hc
  rename_i k42
  split
  · rename_i hc; exact step_barW h hl hI hi hs m hm hB hc
  rename_i k95
  simp only [Bool.not_eq_true] at k60 k40 k94
  by_cases e92 : s.data.toList.getD i 0 = 92
  · by_cases en : i + 1 < s.size
    · exact step_back h hl hI hi hs m hm hB e92 en (by
        cases he : escB (s.data.toList.getD (i + 1) 0) with
        | false => rfl
        | true => exact absurd ⟨e92, en, he⟩ k92)
    · exact step_short h hl hI hi hs m hm hB e92 en
  · by_cases e93 : s.data.toList.getD i 0 = 93
    · exact step_last h hl hI hi hs m hm hB e93 (by
        by_cases e0 : 0 < lastK 6 st.fs
        · exact absurd ⟨e93, e0⟩ k93
        · omega)
    · exact step_text h hl hI hi hs m hm hB e92 k96 e93 k42 k95 k60 k40 k94
end
end Go.Proofs.YtcjmfjccjhdgjaaGreatDoor
namespace Go.Bd
def keys (st : Pst) : List Nat := st.faults.map (·.1) ++ st.fs.dropLast.map (·.at')
structure Dst (st : Pst) (i : Nat) : Prop where
  nd : (keys st).Nodup
  lt : ∀ k ∈ keys st, k < i
theorem keys_top (st : Pst) (g : Rw → Rw) : keys (st.top g) = keys st := by
  obtain ⟨fs, fa⟩ := st
  cases fs with
  | nil => rfl
  | cons f r => cases r <;> rfl
theorem Dst.first : Dst Pst.first 0 := ⟨by simp [keys, Pst.first], by simp [keys, Pst.first]⟩
theorem Dst.top {st : Pst} {i j : Nat} (h : Dst st i) (hj : i ≤ j) (g : Rw → Rw) : Dst (st.top g) j :=
  ⟨by rw [keys_top]; exact h.nd, fun k hk => by rw [keys_top] at hk; have := h.lt k hk; omega⟩
theorem Dst.write {st : Pst} {i j : Nat} (h : Dst st i) (hj : i ≤ j) (s : Bs) : Dst (st.write s) j := h.top hj _
theorem Dst.of_perm {a b : Pst} {i j : Nat} (h : Dst a i) (hj : i ≤ j) (hp : List.Perm (keys a) (keys b)) : Dst b j :=
  ⟨hp.nodup_iff.1 h.nd, fun k hk => by have := h.lt k (hp.mem_iff.2 hk); omega⟩
theorem Dst.of_new {a b : Pst} {i j : Nat} (h : Dst a i) (hj : i < j) (hp : List.Perm (keys b) (i :: keys a)) : Dst b j :=
  ⟨hp.nodup_iff.2 (List.nodup_cons.2 ⟨fun hm => by have := h.lt i hm; omega, h.nd⟩), fun k hk => by
    rcases List.mem_cons.1 (hp.mem_iff.1 hk) with rfl | hk
    · exact hj
    · have := h.lt k hk; omega⟩
theorem keys_tell (st : Pst) (a f : Nat) : List.Perm (keys (st.tell a f)) (a :: keys st) := by
  simp only [keys, Pst.tell, List.map_append, List.map_cons, List.map_nil, List.append_assoc, List.cons_append, List.nil_append]
  exact List.perm_middle
theorem Dst.tell {st : Pst} {i j : Nat} (h : Dst st i) (hj : i < j) (f : Nat) : Dst (st.tell i f) j := h.of_new hj (keys_tell st i f)
theorem keys_drop1 {st : Pst} (h2 : 2 ≤ st.fs.length) : List.Perm (keys st) (keys st.drop1) := by
  obtain ⟨fs, fa⟩ := st
  match fs, h2 with
  | f :: g :: r, _ =>
    have e : ((onTop (spill f) (g :: r)).dropLast).map (·.at') = ((g :: r).dropLast).map (·.at') := by cases r <;> rfl
    simp only [keys, Pst.drop1, e, List.map_append, List.map_cons, List.map_nil, List.append_assoc, List.cons_append, List.nil_append, List.dropLast_cons_cons]
    exact List.Perm.refl _
theorem keys_dropN : ∀ (n : Nat) {st : Pst}, n + 1 ≤ st.fs.length → List.Perm (keys st) (keys (st.dropN n))
  | 0, _, _ => List.Perm.refl _
  | n + 1, st, h => by
    have h1 := drop1_length (st := st) (by omega)
    exact (keys_drop1 (by omega)).trans (keys_dropN n (by omega))
theorem keys_drop {st : Pst} (n : Nat) (h : 1 ≤ st.fs.length) : List.Perm (keys st) (keys (st.drop n)) := keys_dropN _ (by omega)
theorem keys_shut (st : Pst) (h2 : 2 ≤ st.fs.length) : ∃ k, List.Perm (keys st) (k :: keys st.shut) := by
  obtain ⟨fs, fa⟩ := st
  match fs, h2 with
  | f :: g :: r, _ =>
    have e : ∀ q, ((onTop q (g :: r)).dropLast).map (·.at') = ((g :: r).dropLast).map (·.at') := fun q => by cases r <;> rfl
    refine ⟨f.at', ?_⟩
    simp only [keys, Pst.shut, e, List.map_cons, List.dropLast_cons_cons]
    exact List.perm_middle
theorem Dst.fin {st : Pst} {i j n : Nat} (h : Dst st i) (hI : Inv st i) (hj : i ≤ j) (h0 : 0 < n) (hn : n < st.fs.length) : Dst (st.fin n) j := by
  have h1 := h.of_perm (Nat.le_refl _) (keys_drop n (by omega))
  obtain ⟨k, hk⟩ := keys_shut (st.drop n) (by have := (hI.drop hn).2; omega)
  unfold Pst.fin
  have hnd := hk.nodup_iff.1 h1.nd
  refine ⟨(List.nodup_cons.1 hnd).2, fun q hq => ?_⟩
  have := h1.lt q (hk.mem_iff.2 (List.mem_cons_of_mem _ hq))
  omega
theorem Dst.begin {st : Pst} {i j : Nat} (h : Dst st i) (h1 : 1 ≤ st.fs.length) (hj : i < j) (k : Nat) (sign : Bs) : Dst (st.begin k i sign) j := by
  refine h.of_new hj ?_
  obtain ⟨fs, fa⟩ := st
  match fs, h1 with
  | f :: r, _ =>
    simp only [keys, Pst.begin, List.dropLast_cons_cons, List.map_cons]
    exact List.perm_middle
theorem Dst.between {st : Pst} {s a b : Bs} {i : Nat} {asf : Bs → Sp ⊕ Nat} (h : Dst st i) (ha : 1 ≤ a.length) (hi : i + a.length ≤ s.length) : Dst (st.between s i a b asf).1 (st.between s i a b asf).2 := by
  unfold Pst.between
  split
  · exact (h.write (Nat.le_refl i) a).tell (by simp only; omega) _
  · rename_i n hn
    obtain ⟨h1, h2⟩ := nextAt_some hi hn
    split
    · exact (h.write (Nat.le_refl i) _).tell (by simp only; omega) _
    · exact h.top (by simp only; omega) _
theorem Dst.mark {st : Pst} {s : Bs} {i k : Nat} (h : Dst st i) (hI : Inv st i) : Dst (st.mark s i k) (i + 1) := by
  unfold Pst.mark
  split
  · rename_i hc
    rcases lastK_lt k st.fs with h0 | h0
    · omega
    · exact h.fin hI (by omega) hc.1 h0
  · split
    · exact h.write (by omega) _
    · split
      · exact (h.write (Nat.le_refl i) _).tell (by omega) _
      · exact h.begin hI.2.2.1 (by omega) _ _
theorem Dst.step {st : Pst} {s : Bs} {i : Nat} (h : Dst st i) (hI : Inv st i) (hi : i < s.length) : Dst (st.step s i).1 (st.step s i).2 := by
  unfold Pst.step
  split
  · exact h.write (by simp only; omega) _
  split
  · exact h.between (by simp) (by simp; omega)
  split
  · rename_i hp
    exact h.between (by simp) (prefix_two hp)
  split
  · rename_i hp
    exact h.between (by simp) (prefix_two hp)
  split
  · simp only
    split
    · exact h.begin hI.2.2.1 (by omega) _ _
    · exact (h.write (Nat.le_refl i) _).tell (by omega) _
  split
  · rename_i hc
    rcases lastK_lt 6 st.fs with h0 | h0
    · omega
    · exact h.fin hI (by simp only; omega) hc.2 h0
  split
  · exact h.mark hI
  split
  · exact h.mark hI
  · exact h.write (by simp only; omega) _
theorem Dst.run {s : Bs} : ∀ (n i : Nat) (st : Pst), Inv st i → Dst st i → ∃ j, Dst (runP s n i st) j
  | 0, i, st, _, h => ⟨i, h⟩
  | n + 1, i, st, hI, h => by
    rw [runP]
    split
    · rename_i hlt
      obtain ⟨h3, h4, h5⟩ := hI.step hlt
      exact Dst.run n _ _ h3 (h.step hI hlt)
    · exact ⟨i, h⟩
theorem faults_nodup (s : Bs) : ((faultsAt s).map (·.1)).Nodup := by
  obtain ⟨j, hj⟩ := Dst.run (s := s) s.length 0 Pst.first Inv.first Dst.first
  have hI := Inv.run (s := s) s.length 0 Pst.first Inv.first (Nat.zero_le _) (by omega)
  have h := hj.of_perm (Nat.le_refl _) (keys_drop 0 hI.2.2.1)
  exact (List.nodup_append.1 h.nd).1
/-- in order, by their places -/
def insF (p : Nat × Nat) : List (Nat × Nat) → List (Nat × Nat)
  | [] => [p]
  | q :: l => if p.1 ≤ q.1 then p :: q :: l else q :: insF p l
def sortF : List (Nat × Nat) → List (Nat × Nat)
  | [] => []
  | p :: l => insF p (sortF l)
theorem insF_perm (p : Nat × Nat) : ∀ l, List.Perm (insF p l) (p :: l)
  | [] => List.Perm.refl _
  | q :: l => by
    unfold insF
    split
    · exact List.Perm.refl _
    · exact ((insF_perm p l).cons q).trans (List.Perm.swap _ _ _)
theorem sortF_perm : ∀ l, List.Perm (sortF l) l
  | [] => List.Perm.refl _
  | p :: l => (insF_perm p _).trans ((sortF_perm l).cons p)
theorem insF_sorted (p : Nat × Nat) : ∀ l : List (Nat × Nat), l.Pairwise (fun a b => a.1 ≤ b.1) → (insF p l).Pairwise (fun a b => a.1 ≤ b.1)
  | [], _ => by simp [insF]
  | q :: l, h => by
    unfold insF
    obtain ⟨h1, h2⟩ := List.pairwise_cons.1 h
    split
    · rename_i hc
      refine List.pairwise_cons.2 ⟨fun x hx => ?_, h⟩
      rcases List.mem_cons.1 hx with rfl | hx
      · exact hc
      · have := h1 x hx; omega
    · rename_i hc
      refine List.pairwise_cons.2 ⟨fun x hx => ?_, insF_sorted p l h2⟩
      rcases List.mem_cons.1 ((insF_perm p l).mem_iff.1 hx) with rfl | hx
      · omega
      · exact h1 x hx
theorem sortF_sorted : ∀ l : List (Nat × Nat), (sortF l).Pairwise (fun a b => a.1 ≤ b.1)
  | [] => List.Pairwise.nil
  | p :: l => insF_sorted p _ (sortF_sorted l)
theorem inj_keys : ∀ {b : List (Nat × Nat)}, (b.map (·.1)).Nodup → ∀ {x y}, x ∈ b → y ∈ b → x.1 = y.1 → x = y
  | [], _, _, _, hx, _, _ => by cases hx
  | p :: b, hn, x, y, hx, hy, e => by
    obtain ⟨h1, h2⟩ := List.nodup_cons.1 hn
    rcases List.mem_cons.1 hx with rfl | hx' <;> rcases List.mem_cons.1 hy with rfl | hy'
    · rfl
    · exact (h1 (List.mem_map.2 ⟨y, hy', e.symm⟩)).elim
    · exact (h1 (List.mem_map.2 ⟨x, hx', e⟩)).elim
    · exact inj_keys h2 hx' hy' e
/-- what is in order, and has no place twice, is the order -/
theorem sort_unique {a b : List (Nat × Nat)} (hp : List.Perm a b) (hn : (b.map (·.1)).Nodup) (ha : a.Pairwise (fun x y => x.1 ≤ y.1)) (hb : b.Pairwise (fun x y => x.1 ≤ y.1)) : a = b := by
  refine hp.eq_of_pairwise (le := fun x y : Nat × Nat => x.1 ≤ y.1) (fun x y hx hy h1 h2 => ?_) ha hb
  have e : x.1 = y.1 := by omega
  have hx' : x ∈ b := hp.mem_iff.1 hx
  exact inj_keys hn hx' hy e
/-- a text's faults -/
def faultsOf (s : Bs) : List Nat := (sortF (faultsAt s)).map (·.2)
end Go.Bd
namespace Go.Bd
open Go.RowKit Go.Sort
def encT (p : Nat × Nat) : List Value := [.int .i64 (p.1 : Int), .int .i64 (p.2 : Int)]
def cfT (x y : Nat × Nat) : Int := Lib.compareInt (x.1 : Int) (y.1 : Int)
theorem ltT (x y : Nat × Nat) : Go.Proofs.ltOf cfT x y = decide (x.1 < y.1) := by
  unfold Go.Proofs.ltOf cfT Lib.compareInt
  by_cases h1 : x.1 < y.1
  · simp [h1]
  · by_cases h2 : y.1 < x.1 <;> simp [h1, h2]
theorem swoT : SWO (Go.Proofs.ltOf cfT) where
  irrefl x := by rw [ltT]; simp
  trans x y z h1 h2 := by rw [ltT] at *; simp at *; omega
  ntrans x y z h1 h2 := by rw [ltT] at *; simp at *; omega
theorem toldCells_length (l : List (Nat × Nat)) : (toldCells l).length = l.length * 2 := by
  induction l with
  | nil => rfl
  | cons p l ih => rw [show toldCells (p :: l) = [.int .i64 (p.1 : Int), .int .i64 (p.2 : Int)] ++ toldCells l from rfl, List.length_append, ih]; simp; omega
theorem toldCells_get : ∀ (l : List (Nat × Nat)) (j : Nat), j < l.length * 2 → (toldCells l)[j]? = (encT l[j / 2]!)[j % 2]?
  | [], j, h => by simp at h
  | p :: l, j, h => by
    have e : toldCells (p :: l) = [.int .i64 (p.1 : Int), .int .i64 (p.2 : Int)] ++ toldCells l := rfl
    rw [e]
    by_cases h2 : j < 2
    · rw [List.getElem?_append_left (by simpa using h2)]
      obtain rfl | rfl : j = 0 ∨ j = 1 := by omega
      · rfl
      · rfl
    · rw [List.getElem?_append_right (by simp; omega)]
      have e1 : j / 2 = (j - 2) / 2 + 1 := by omega
      have e2 : j % 2 = (j - 2) % 2 := by omega
      rw [show ([.int .i64 (p.1 : Int), .int .i64 (p.2 : Int)] : List Value).length = 2 from rfl, toldCells_get l (j - 2) (by simp at h; omega), e1, e2]
      rfl
theorem get_some {l : List Value} {j : Nat} {v : Value} (h : l[j]? = some v) : l[j]! = v := by
  rw [List.getElem!_eq_getElem?_getD, h]; rfl
theorem encT_get (p : Nat × Nat) (j : Nat) (h : j < 2) : (encT p)[j]? = some (encT p)[j]! := by
  obtain rfl | rfl : j = 0 ∨ j = 1 := by omega
  · rfl
  · rfl
section
variable {w w' : World} {B g n cap : Nat} {cur : Array Value} {l : List (Nat × Nat)}
theorem told_holdsK (hh : w.heap[g]? = some (.cells cur tT (0, 0))) (ht : cur.toList.take (l.length * 2) = toldCells l) (hs : l.length * 2 ≤ cur.size) : HoldsK encT 2 w g 0 l.toArray := by
  intro j hj
  rw [size_flatK] at hj
  have hj2 : j < l.length * 2 := by simpa using hj
  rw [get_flatK _ _ _ _ hj, Nat.zero_add]
  have h1 : cur[j]? = some (encT l.toArray[j / 2]!)[j % 2]! := by
    rw [← encT_get _ _ (by omega), show l.toArray[j / 2]! = l[j / 2]! by simp, ← toldCells_get l j hj2, ← ht, List.getElem?_take_of_lt hj2, Array.getElem?_toList]
  exact ⟨(Holds.cell hh j).trans h1, Holds.free hh j⟩
theorem sortWorld_told (hh : w.heap[g]? = some (.cells cur tT (0, 0))) (hs : l.length * 2 ≤ cur.size) (m : Nat) (d' : List (Nat × Nat)) (hd : d'.length = l.length) (os : Array Obj) :
    Chg w (Go.Proofs.sortWorldK encT 2 w g 0 m d'.toArray os) (· = g) ∧ ∃ cur', (Go.Proofs.sortWorldK encT 2 w g 0 m d'.toArray os).heap[g]? = some (.cells cur' tT (0, 0)) ∧ cur'.size = cur.size ∧ cur'.toList.take (l.length * 2) = toldCells d' := by
  have hlt : g < w.heap.size := (Array.getElem?_eq_some_iff.1 hh).1
  have hsz : (w.heap.modify g (onCells (putCells id 0 (flatK encT 2 d'.toArray)))).size = w.heap.size := Array.size_modify
  refine ⟨⟨rfl, rfl, rfl, ?_, fun k hk hg => ?_⟩, putCells id 0 (flatK encT 2 d'.toArray) cur, ?_, by simp [putCells], ?_⟩
  · show w.heap.size ≤ (w.heap.modify g _ ++ os).size
    rw [Array.size_append, Array.size_modify]; omega
  · show (w.heap.modify g _ ++ os)[k]? = _
    rw [Array.getElem?_append_left (by rw [Array.size_modify]; exact hk), Array.getElem?_modify, if_neg (fun e => hg e.symm)]
  · show (w.heap.modify g _ ++ os)[g]? = _
    rw [Array.getElem?_append_left (by rw [Array.size_modify]; exact hlt), Array.getElem?_modify, if_pos rfl, hh]
    rfl
  · apply List.ext_getElem?
    intro j
    by_cases hj : j < l.length * 2
    · rw [List.getElem?_take_of_lt hj, Array.getElem?_toList, toldCells_get d' j (by omega)]
      have hjc : j < cur.size := by omega
      have hjf : j < (flatK encT 2 d'.toArray).size := by rw [size_flatK]; simp; omega
      simp only [putCells, Array.getElem?_mapIdx, Array.getElem?_eq_getElem hjc, Option.map_some, Nat.zero_le, Nat.zero_add, true_and, if_pos hjf, Nat.sub_zero, id]
      rw [get_flatK _ _ _ _ (by simp; omega), encT_get _ _ (by omega)]
      simp
    · rw [List.getElem?_take_eq_none (by omega), List.getElem?_eq_none (by rw [toldCells_length]; omega)]
end
theorem perm_told {l d : List (Nat × Nat)} (hn : (l.map (·.1)).Nodup) (hp : PermIn 0 l.toArray.size l.toArray d.toArray) (hs : SortedIn (Go.Proofs.ltOf cfT) 0 l.toArray.size d.toArray) : d = sortF l := by
  obtain ⟨h1, _, h3⟩ := hp
  have hlen : d.length = l.length := by simpa using h1
  have e1 : (d.toArray.extract 0 l.toArray.size).toList = d := by simp [← hlen]
  have e2 : (l.toArray.extract 0 l.toArray.size).toList = l := by simp
  rw [e1, e2] at h3
  refine sort_unique (h3.trans (sortF_perm l).symm) ?_ ?_ (sortF_sorted l)
  · exact ((sortF_perm l).map (·.1)).nodup_iff.2 hn
  · rw [List.pairwise_iff_getElem]
    intro i j hi hj hij
    have := hs i j (Nat.zero_le _) hij (by simp; omega)
    rw [ltT, decide_eq_false_iff_not] at this
    simp only [List.getElem!_toArray, getElem!_pos d j hj, getElem!_pos d i hi] at this
    omega
end Go.Bd
namespace Go.Proofs.YtcjmfjccjhdgjaaGreatDoor
open Go.RowKit Go.Bd Go.Sort
theorem cmpT (x y : Nat × Nat) (W : World) : Calls Tryz.prog 83 #[.agg #[.int .i64 (x.1 : Int), .int .i64 (x.2 : Int)], .agg #[.int .i64 (y.1 : Int), .int .i64 (y.2 : Int)]] W fun e w' => e = .returned (.int .i64 (cfT x y)) ∧ ∃ q os', w' = grow (W.drewN q) os' := by
  have hcon := fun W' => Tryz.cmp_Compare_int (x.1 : Int) (y.1 : Int) W'
  unfold cfT
  generalize Lib.compareInt (x.1 : Int) (y.1 : Int) = r at hcon ⊢
  go_enter Tryz.func83, Tryz.ntmps83
  go_wp2_with (go_at_call 84; refine (hcon _).mono ?_; rintro e w' ⟨rfl, rfl⟩)
  go_ret
  exact ⟨rfl, 0, _, by rw [alloc_eq_grow, alloc_eq_grow, grow_grow]; rfl⟩
set_option maxRecDepth 100000 in
theorem insert_none (fv : Value) (w : World) : Calls Tryz.prog 121 #[.slice none 0 0, .int .i64 0, .int .i64 0, fv] w fun e w' => e = .returned (.tuple #[]) ∧ w = w' := by
  go_enter Tryz.func121, Tryz.ntmps121
  go_wp2
  go_loop [8] (fun i => i = .int .i64 1) (fun _ => 0)
  case atStart => rfl
  case round =>
    obtain rfl := hrel
    go_wp2
    go_end0
    exact ⟨rfl, rfl⟩
set_option maxRecDepth 100000 in
theorem pdq_none (fv : Value) (x : Int) (w : World) : Calls Tryz.prog 109 #[.slice none 0 0, .int .i64 0, .int .i64 0, .int .i64 x, fv] w fun e w' => e = .returned (.tuple #[]) ∧ w = w' := by
  go_enter Tryz.func109, Tryz.ntmps109
  go_wp2
  go_loop [1, 2] (fun a b => a = .int .i64 0 ∧ b = .int .i64 0) (fun _ _ => 0)
  case atStart => exact ⟨rfl, rfl⟩
  case round =>
    obtain ⟨rfl, rfl⟩ := hrel
    go_wp2_with (go_at_call 121; refine (insert_none _ _).mono ?_; rintro e w' ⟨rfl, rfl⟩)
    (try simp only [Exit.inBlock, Exit.then])
    refine bodyPost_ret (results_none rfl _ _ _) rfl ?_
    exact ⟨rfl, rfl⟩
theorem sort_none (fv : Value) (w : World) : Calls Tryz.prog 82 #[.slice none 0 0, fv] w fun e w' => e = .returned (.tuple #[]) ∧ w = w' := by
  have cl := fun w => Tryz.bits_Len 0 w (by omega) (by omega)
  go_enter Tryz.func82, Tryz.ntmps82
  go_wp2_with (first
    | (go_at_call 110; refine (cl _).mono ?_; rintro e w' ⟨rfl, rfl⟩)
    | (go_at_call 109; refine (pdq_none _ _ _).mono ?_; rintro e w' ⟨rfl, rfl⟩)
    | fail)
  go_end0
  exact ⟨rfl, rfl⟩
theorem sort_any {w : World} {B : Nat} {fv : Value} {l : List (Nat × Nat)} (h : w.ownsRow B tT 2 fv l.length (toldCells l)) (hn : (l.map (·.1)).Nodup) (hlen : l.length ≤ 10000000) :
    Calls Tryz.prog 82 #[fv, .func (.func 83) #[] #[]] w fun e w' => e = .returned (.tuple #[]) ∧ Chg w w' (fun b => fv.ownBlock = some b) ∧ w'.ownsRow B tT 2 fv l.length (toldCells (sortF l)) := by
  rcases h.2 with ⟨rfl, h0⟩ | ⟨g, cap, cur, rfl, hg, hh, hc, hm, hs, ht⟩
  · obtain rfl : l = [] := List.eq_nil_of_length_eq_zero h0
    refine (sort_none _ w).mono ?_
    rintro e w' ⟨rfl, rfl⟩
    exact ⟨rfl, Chg.refl _ _, h⟩
  · have eg : ∀ args w, (callFunc 83 args).run Tryz.prog w = .ok (.enter 83 args) w := fun args w => by kernel_rfl
    have hs2 : l.length * 2 ≤ cur.size := by rw [hs]; exact Nat.mul_le_mul_right 2 hc
    have hcon := AnyQ.slices_SortFunc Tryz.sortTold 2 Tryz.isAgg145 Tryz.sizeOf145 encT (fun _ => rfl) (fun x v hv => by simp [encT] at hv; rcases hv with rfl | rfl <;> rfl) cfT swoT 83 #[] g 0 cap l.toArray w eg
      (fun _ _ _ _ x y => cmpT x y _) (told_holdsK hh ht hs2) (Array.getElem?_eq_some_iff.1 hh).1 (by simp; omega)
    rw [show l.toArray.size = l.length by simp] at hcon
    refine hcon.mono ?_
    rintro e w' ⟨rfl, d', n, os, hp, hsd, rfl⟩
    have hd : d'.toList = sortF l := perm_told hn (by simpa using hp) (by simpa using hsd)
    obtain ⟨h1, cur', h2, h3, h4⟩ := sortWorld_told hh hs2 n d'.toList (by rw [hd]; exact (sortF_perm l).length_eq) os
    rw [Array.toArray_toList] at h1 h2
    rw [hd] at h4
    refine ⟨rfl, h1.mono (fun k _ e => by subst e; rfl), ?_, .inr ⟨g, cap, cur', rfl, hg, h2, hc, hm, by rw [h3, hs], h4⟩⟩
    rw [toldCells_length, (sortF_perm l).length_eq]
end Go.Proofs.YtcjmfjccjhdgjaaGreatDoor
namespace Go.Bd
def R (s : Bs) (i : Nat) (st : Pst) : Pst := runP s s.length i st
theorem R_step {s : Bs} {i : Nat} {st : Pst} (hI : Inv st i) (hi : i < s.length) : R s i st = R s (st.step s i).2 (st.step s i).1 := run_step hI hi (by omega)
theorem R_end {s : Bs} {i : Nat} {st : Pst} (h : s.length ≤ i) : R s i st = st := run_end st h
theorem R_plain {s pre w suf : Bs} {i : Nat} {st : Pst} (hI : Inv st i) (hs : s = pre ++ (w ++ suf)) (hi : i = pre.length) (hw : w.all plainC = true) : R s i st = R s (i + w.length) (st.write w) := by
  subst hs; subst hi
  unfold R
  rw [run_plain w.length _ pre.length st (by simp; try omega) (fun j h1 h2 => by
    rw [getD_app_right h1, getD_app_left (by omega)]
    exact plain_getD hw (by omega)) (by simp; try omega)]
  rw [List.drop_left' rfl, List.take_left' rfl]
  exact run_fuel _ _ _ _ (hI.write w) (by simp; try omega) (by simp; try omega)
theorem at_mid (pre suf : Bs) (c : UInt8) : (pre ++ c :: suf).getD pre.length 0 = c := by rw [getD_app_right (Nat.le_refl _)]; simp
theorem at_next (pre suf : Bs) (c d : UInt8) : (pre ++ c :: d :: suf).getD (pre.length + 1) 0 = d := by rw [getD_app_right (by omega)]; simp
theorem step_star {s : Bs} {i : Nat} (st : Pst) (hi : i < s.length) (h : s.getD i 0 = 42) : st.step s i = (st.mark s i 1, i + 1) := by
  unfold Pst.step
  rw [if_neg (by rw [h]; simp), if_neg (by rw [h]; decide), if_neg (by rw [pre_ne hi (by rw [h]; decide)]; simp), if_neg (by rw [pre_ne hi (by rw [h]; decide)]; simp), if_neg (by rw [pre_ne hi (by rw [h]; decide)]; simp), if_neg (by rw [h]; simp), if_pos h]
theorem step_bar {s : Bs} {i : Nat} (st : Pst) (hi : i < s.length) (h : s.getD i 0 = 95) : st.step s i = (st.mark s i 2, i + 1) := by
  unfold Pst.step
  rw [if_neg (by rw [h]; simp), if_neg (by rw [h]; decide), if_neg (by rw [pre_ne hi (by rw [h]; decide)]; simp), if_neg (by rw [pre_ne hi (by rw [h]; decide)]; simp), if_neg (by rw [pre_ne hi (by rw [h]; decide)]; simp), if_neg (by rw [h]; simp), if_neg (by rw [h]; decide), if_pos h]
theorem step_code {s : Bs} {i : Nat} (st : Pst) (h : s.getD i 0 = 96) : st.step s i = st.between s i [96] [96] codeS := by
  unfold Pst.step
  rw [if_neg (by rw [h]; simp), if_pos h]
theorem step_note {s : Bs} {i : Nat} (st : Pst) (hi : i < s.length) (h : s.getD i 0 = 94) (hp : [94, 91].isPrefixOf (s.drop i) = true) (hr : st.room = true) : st.step s i = (st.begin 6 i [94, 91], i + 2) := by
  unfold Pst.step
  rw [if_neg (by rw [h]; simp), if_neg (by rw [h]; decide), if_neg (by rw [pre_ne hi (by rw [h]; decide)]; simp), if_neg (by rw [pre_ne hi (by rw [h]; decide)]; simp), if_pos hp, if_pos hr]
theorem step_shut {s : Bs} {i : Nat} (st : Pst) (hi : i < s.length) (h : s.getD i 0 = 93) (hl : 0 < lastK 6 st.fs) : st.step s i = (st.fin (lastK 6 st.fs), i + 1) := by
  unfold Pst.step
  rw [if_neg (by rw [h]; simp), if_neg (by rw [h]; decide), if_neg (by rw [pre_ne hi (by rw [h]; decide)]; simp), if_neg (by rw [pre_ne hi (by rw [h]; decide)]; simp), if_neg (by rw [pre_ne hi (by rw [h]; decide)]; simp), if_pos ⟨h, hl⟩]
theorem mark_open {st : Pst} {s : Bs} {i k : Nat} {c : UInt8} (hc : s.getD i 0 = c) (hl : lastK k st.fs = 0) (hp : ¬ (0 < i ∧ solid (s.getD (i - 1) 0) = true)) (hn : i + 1 < s.length) (hb : blank (s.getD (i + 1) 0) = false) (hr : st.room = true) : st.mark s i k = st.begin k i [c] := by
  unfold Pst.mark
  rw [if_neg (by rw [hl]; simp), if_neg (by rintro (h | h | h); exact hp h; omega; rw [hb] at h; cases h), if_neg (by rw [hr]; simp), hc]
theorem mark_text {st : Pst} {s : Bs} {i k : Nat} {c : UInt8} (hc : s.getD i 0 = c) (hl : lastK k st.fs = 0) (hp : (0 < i ∧ solid (s.getD (i - 1) 0) = true) ∨ s.length ≤ i + 1 ∨ blank (s.getD (i + 1) 0) = true) : st.mark s i k = st.write [c] := by
  unfold Pst.mark
  rw [if_neg (by rw [hl]; simp), if_pos hp, hc]
theorem mark_shut {st : Pst} {s : Bs} {i k n : Nat} (hl : lastK k st.fs = n) (h0 : 0 < n) (ha : atOf st.fs n + 1 ≠ i) (hi : 0 < i) (hb : blank (s.getD (i - 1) 0) = false) (hs : ¬ (i + 1 < s.length ∧ solid (s.getD (i + 1) 0) = true)) : st.mark s i k = st.fin n := by
  unfold Pst.mark
  rw [hl, if_pos ⟨h0, ha, hi, hb, hs⟩]
def small (w : Bs) : Bool := w.all fun c => 97 ≤ c && c ≤ 122
theorem small_get {w : Bs} (h : small w = true) {j : Nat} (hj : j < w.length) : plainC (w.getD j 0) = true ∧ solid (w.getD j 0) = true ∧ blank (w.getD j 0) = false := by
  have h1 : (97 ≤ w.getD j 0 && w.getD j 0 ≤ 122) = true := by
    rw [List.getD_eq_getElem?_getD, List.getElem?_eq_getElem hj]
    exact List.all_eq_true.1 h _ (List.getElem_mem hj)
  generalize w.getD j 0 = c at h1
  have ne : ∀ k : UInt8, (97 ≤ k && k ≤ 122) = false → (c == k) = false := fun k hk => by
    rw [beq_eq_false_iff_ne]
    rintro rfl
    rw [h1] at hk; cases hk
  refine ⟨?_, ?_, ?_⟩
  · simp only [plainC, ne 42 (by decide), ne 95 (by decide), ne 60 (by decide), ne 40 (by decide), ne 94 (by decide), ne 93 (by decide), ne 92 (by decide), ne 96 (by decide)]; rfl
  · unfold solid; rw [h1]; simp
  · have n1 := ne 32 (by decide)
    have n2 := ne 9 (by decide)
    rw [beq_eq_false_iff_ne] at n1 n2
    cases hb : blank c with
    | false => rfl
    | true =>
      rcases (blank_iff c).1 hb with h | h
      · exact absurd (UInt8.toNat_inj.1 (by show c.toNat = 32; omega)) n1
      · exact absurd (UInt8.toNat_inj.1 (by show c.toNat = 9; omega)) n2
theorem small_plain {w : Bs} (h : small w = true) : w.all plainC = true := by
  rw [List.all_eq_true]
  intro c hc
  obtain ⟨j, hj, rfl⟩ := List.mem_iff_getElem.1 hc
  have := (small_get h hj).1
  rwa [List.getD_eq_getElem?_getD, List.getElem?_eq_getElem hj] at this
theorem begin_inv {i k j : Nat} {sign : Bs} (h : Inv Pst.first i) (hs : 1 ≤ sign.length) : Inv (Pst.first.begin k j sign) (i + sign.length) := h.begin rfl k j sign hs
theorem fin_top {f : Fr} {r : List Fr} {fa : List (Nat × Nat)} (_hr : r ≠ []) : Pst.fin ⟨f :: r, fa⟩ r.length = ⟨onTop (·.add ⟨f.kind, [], [], [], f.row.flush.sp⟩) r, fa⟩ := by
  have e : (f :: r).length - 1 - r.length = 0 := by simp
  unfold Pst.fin Pst.drop
  simp only [e]
  rfl
theorem lastK_top {f : Fr} {r : List Fr} (hr : r ≠ []) : lastK f.kind (f :: r) = r.length := by rw [lastK, if_neg hr, if_pos rfl]
theorem lastK_skip {f : Fr} {r : List Fr} {k : Nat} (hk : f.kind ≠ k) : lastK k (f :: r) = lastK k r := by
  rw [lastK]
  split
  · rename_i h; subst h; rfl
  · first | rfl | rw [if_neg hk]
theorem atOf_top (f : Fr) (r : List Fr) : atOf (f :: r) r.length = f.at' := by
  unfold atOf
  rw [List.reverse_cons, List.getElem?_append_right (by simp)]
  simp
theorem write_begin (st : Pst) (k i : Nat) (sign w : Bs) : (st.begin k i sign).write w = ⟨⟨⟨[], w⟩, k, sign, i⟩ :: st.fs, st.faults⟩ := by
  simp [Pst.write, Pst.top, Pst.begin, onTop, Rw.write, Rw.none]
theorem flush_text {w : Bs} (h : w ≠ []) : (Rw.mk [] w).flush = ⟨[txt w], []⟩ := by simp [Rw.flush, h]
/-- a word between two signs of one kind, wherever it stands -/
theorem run_styled {c : UInt8} {k : Nat} {w pre suf s : Bs} {st : Pst} {i : Nat} (hck : (c = 42 ∧ k = 1) ∨ (c = 95 ∧ k = 2)) (hw : small w = true) (hn : w ≠ []) (hs : s = pre ++ c :: (w ++ c :: suf)) (hi : i = pre.length) (hI : Inv st i)
    (hl : lastK k st.fs = 0) (hr : st.room = true) (hp : ¬ (0 < i ∧ solid (s.getD (i - 1) 0) = true)) (hq : suf = [] ∨ solid (suf.headD 0) = false) :
    R s i st = R s (i + (w.length + 2)) (st.top (·.add ⟨k, [], [], [], [txt w]⟩)) := by
  have hwl : 1 ≤ w.length := List.length_pos_iff.2 hn
  have hsl : s.length = i + (w.length + (suf.length + 2)) := by subst hs; subst hi; simp; omega
  have hstep : ∀ (st : Pst) j, j < s.length → s.getD j 0 = c → st.step s j = (st.mark s j k, j + 1) := fun st j hj h => by
    rcases hck with ⟨rfl, rfl⟩ | ⟨rfl, rfl⟩
    · exact step_star st hj h
    · exact step_bar st hj h
  have g0 : s.getD i 0 = c := by subst hs; subst hi; exact at_mid _ _ _
  have gw : ∀ j, j < w.length → s.getD (i + 1 + j) 0 = w.getD j 0 := fun j hj => by
    subst hs; subst hi
    rw [getD_app_right (by omega), show pre.length + 1 + j - pre.length = j + 1 by omega]
    show (w ++ c :: suf).getD j 0 = _
    exact getD_app_left hj
  have gc : s.getD (i + 1 + w.length) 0 = c := by
    subst hs; subst hi
    rw [getD_app_right (by omega), show pre.length + 1 + w.length - pre.length = w.length + 1 by omega]
    exact at_mid w suf c
  have gs : suf ≠ [] → s.getD (i + 1 + w.length + 1) 0 = suf.headD 0 := fun h => by
    subst hs; subst hi
    rw [getD_app_right (by omega), show pre.length + 1 + w.length + 1 - pre.length = (w.length + 1) + 1 by omega]
    show (w ++ c :: suf).getD (w.length + 1) 0 = _
    rw [getD_app_right (by omega), show w.length + 1 - w.length = 0 + 1 by omega]
    show suf.getD 0 0 = _
    cases suf <;> rfl
  have hfs : st.fs ≠ [] := fun h => by have := hI.2.2.1; rw [h] at this; simp at this
  rw [R_step hI (by omega), hstep _ _ (by omega) g0, mark_open g0 hl hp (by omega) (by have := gw 0 hwl; rw [Nat.add_zero] at this; rw [this]; exact (small_get hw hwl).2.2) hr]
  have hI1 : Inv (st.begin k i [c]) (i + 1) := hI.begin hr k i [c] (Nat.le_refl _)
  show R s (i + 1) (st.begin k i [c]) = _
  rw [R_plain (pre := pre ++ [c]) (w := w) (suf := c :: suf) hI1 (by rw [hs]; simp) (by rw [hi]; simp) (small_plain hw)]
  have hI2 := hI1.write w
  rw [R_step hI2 (by omega), hstep _ _ (by omega) gc, write_begin,
    mark_shut (n := st.fs.length) (lastK_top hfs) (by have := hI.2.2.1; omega) (by rw [atOf_top]; simp only; omega) (by omega)
      (by have := gw (w.length - 1) (by omega); rw [show i + 1 + w.length - 1 = i + 1 + (w.length - 1) by omega, this]; exact (small_get hw (by omega)).2.2)
      (fun h => by
        rcases hq with h1 | h1
        · subst h1; simp at hsl; omega
        · by_cases h2 : suf = []
          · subst h2; simp at hsl; omega
          · rw [gs h2, h1] at h; cases h.2), fin_top hfs]
  simp only [flush_text hn]
  show R s (i + 1 + w.length + 1) _ = R s _ _
  rw [show i + 1 + w.length + 1 = i + (w.length + 2) by omega]
  rfl
theorem endP_eq (s : Bs) : endP s = (R s 0 Pst.first).drop 0 := rfl
theorem top_first (x : Sp) (hx : x.kind ≠ 0) : Pst.first.top (·.add x) = ⟨[⟨⟨[x], []⟩, 0, [], 0⟩], []⟩ := by
  simp [Pst.first, Pst.top, onTop, Rw.add, hx, Rw.flush, Rw.none]
/-- a word between two signs -/
theorem end_styled {c : UInt8} {k : Nat} {w : Bs} (hck : (c = 42 ∧ k = 1) ∨ (c = 95 ∧ k = 2)) (hw : small w = true) (hn : w ≠ []) : endP (c :: (w ++ [c])) = ⟨[⟨⟨[⟨k, [], [], [], [txt w]⟩], []⟩, 0, [], 0⟩], []⟩ := by
  have hk : k ≠ 0 := by rcases hck with ⟨_, rfl⟩ | ⟨_, rfl⟩ <;> simp
  rw [endP_eq, run_styled (s := c :: (w ++ [c])) (i := 0) (pre := []) (suf := []) hck hw hn rfl rfl Inv.first rfl rfl (by omega) (.inl rfl), R_end (by simp; try omega), top_first _ hk]
  rfl
/-- .. between two accents, and in general: code -/
theorem next_here {s pre w suf : Bs} {i : Nat} (hs : s = pre ++ (w ++ 96 :: suf)) (hi : i = pre.length) (hw : (96 : UInt8) ∉ w) : nextAt s i [96] = some (i + w.length) := by
  have h : Lib.index (s.drop i) [96] = w.length := by
    subst hs; subst hi
    rw [List.drop_left' rfl]
    refine Lib.index_first (by simp) ?_ (fun j hj => ?_)
    · unfold Lib.occAt; rw [List.drop_left' rfl]; simp
    · have : ((96 : UInt8) == w[j]) = false := by
        rw [beq_eq_false_iff_ne]
        intro e
        exact hw (e ▸ List.getElem_mem hj)
      unfold Lib.occAt
      rw [List.drop_append_of_le_length (by omega), List.drop_eq_getElem_cons hj, List.cons_append, List.isPrefixOf, this]
      rfl
  unfold nextAt
  rw [h, if_neg (by omega)]
  simp
theorem next_nowhere {s : Bs} {i : Nat} (hw : (96 : UInt8) ∉ s.drop i) : nextAt s i [96] = none := by
  have h : Lib.index (s.drop i) [96] = -1 := by
    refine Lib.index_none fun j hj => ?_
    unfold Lib.occAt
    by_cases h1 : j < (s.drop i).length
    · rw [List.drop_eq_getElem_cons h1]
      have : ((96 : UInt8) == (s.drop i)[j]) = false := by
        rw [beq_eq_false_iff_ne]
        intro e
        exact hw (e ▸ List.getElem_mem h1)
      simp only [List.isPrefixOf, this, Bool.false_and]
    · rw [List.drop_eq_nil_of_le (by omega)]; rfl
  unfold nextAt
  rw [h, if_pos (by decide)]
theorem end_code {w : Bs} (hw : (96 : UInt8) ∉ w) : endP (96 :: (w ++ [96])) = ⟨[⟨⟨[⟨3, w, [], [], []⟩], []⟩, 0, [], 0⟩], []⟩ := by
  have hn := next_here (s := 96 :: (w ++ [96])) (pre := [96]) (w := w) (suf := []) (i := 0 + [(96 : UInt8)].length) rfl rfl hw
  rw [endP_eq, R_step Inv.first (by simp), step_code _ rfl]
  unfold Pst.between
  rw [hn]
  simp only [codeS]
  have e : List.take (0 + [(96 : UInt8)].length + w.length - (0 + [(96 : UInt8)].length)) (List.drop (0 + [(96 : UInt8)].length) (96 :: (w ++ [96]))) = w := by
    rw [Nat.add_sub_cancel_left]
    simp
  rw [e, R_end (by simp; try omega), top_first _ (by simp)]
  rfl
end Go.Bd
namespace Go.Bd
theorem run_signtext {c : UInt8} {k : Nat} {s : Bs} {st : Pst} {i : Nat} (hck : (c = 42 ∧ k = 1) ∨ (c = 95 ∧ k = 2)) (hI : Inv st i) (hi : i < s.length) (hc : s.getD i 0 = c) (hl : lastK k st.fs = 0)
    (hp : (0 < i ∧ solid (s.getD (i - 1) 0) = true) ∨ s.length ≤ i + 1 ∨ blank (s.getD (i + 1) 0) = true) : R s i st = R s (i + 1) (st.write [c]) := by
  rw [R_step hI hi]
  rcases hck with ⟨rfl, rfl⟩ | ⟨rfl, rfl⟩
  · rw [step_star st hi hc, mark_text hc hl hp]
  · rw [step_bar st hi hc, mark_text hc hl hp]
theorem lastK_write (st : Pst) (k : Nat) (s : Bs) : lastK k (st.write s).fs = lastK k st.fs := by
  unfold Pst.write Pst.top
  cases st.fs with
  | nil => rfl
  | cons f r => simp only [onTop, lastK]
theorem end_first (s : Bs) : (Pst.first.write s).drop 0 = ⟨[⟨⟨[], s⟩, 0, [], 0⟩], []⟩ := by
  simp [Pst.write, Pst.top, onTop, Pst.first, Rw.write, Rw.none, Pst.drop, Pst.dropN]
theorem lastK_first (k : Nat) (s : Bs) : lastK k (Pst.first.write s).fs = 0 := by rw [lastK_write]; rfl
/-- a text all of which is text -/
def AllText (s : Bs) : Prop := endP s = ⟨[⟨⟨[], s⟩, 0, [], 0⟩], []⟩
theorem small_last {w : Bs} (hw : small w = true) (hn : w ≠ []) : solid (w.getD (w.length - 1) 0) = true := (small_get hw (by have := List.length_pos_iff.2 hn; omega)).2.1
theorem text_behind {w : Bs} (hw : small w = true) (hn : w ≠ []) : AllText (120 :: 42 :: (w ++ [42])) := by
  have hl := List.length_pos_iff.2 hn
  unfold AllText
  rw [endP_eq, R_plain (s := 120 :: 42 :: (w ++ [42])) (i := 0) (pre := []) (w := [120]) (suf := 42 :: (w ++ [42])) Inv.first rfl rfl (by decide)]
  have h1 := (Inv.first.write [120])
  rw [run_signtext (s := 120 :: 42 :: (w ++ [42])) (c := 42) (k := 1) (.inl ⟨rfl, rfl⟩) h1 (by simp; try omega) rfl (lastK_first 1 _) (.inl ⟨by simp, (rfl : solid 120 = true)⟩), write_write]
  have h2 := (Inv.first.write ([120] ++ [42]))
  rw [R_plain (s := 120 :: 42 :: (w ++ [42])) (i := 0 + [(120 : UInt8)].length + 1) (pre := [120, 42]) (w := w) (suf := [42]) (h2.more (by simp)) rfl rfl (small_plain hw), write_write]
  have h3 := (Inv.first.write ([120] ++ [42] ++ w))
  have e : (120 :: 42 :: (w ++ [42])).getD (0 + [(120 : UInt8)].length + 1 + w.length) 0 = 42 := by
    have := at_mid (120 :: 42 :: w) [] 42
    have e : 0 + [(120 : UInt8)].length + 1 + w.length = (120 :: 42 :: w : Bs).length := by simp; omega
    rw [e]; exact this
  have e2 : (120 :: 42 :: (w ++ [42])).getD (0 + [(120 : UInt8)].length + 1 + w.length - 1) 0 = w.getD (w.length - 1) 0 := by
    have e : 0 + [(120 : UInt8)].length + 1 + w.length - 1 = (w.length - 1) + 1 + 1 := by simp; omega
    rw [e]
    show (w ++ [42]).getD (w.length - 1) 0 = _
    exact getD_app_left (by omega)
  rw [run_signtext (c := 42) (k := 1) (.inl ⟨rfl, rfl⟩) (h3.more (by simp; omega)) (by simp; try omega) e (lastK_first 1 _) (.inl ⟨by simp; try omega, by rw [e2]; exact small_last hw hn⟩), write_write, R_end (by simp; try omega), end_first]
  simp
theorem text_blank {w : Bs} (hw : small w = true) : AllText (42 :: 32 :: (w ++ [32, 42])) := by
  have hwp : (32 :: (w ++ [32])).all plainC = true := by
    rw [List.all_cons, List.all_append, small_plain hw]; decide
  unfold AllText
  rw [endP_eq, run_signtext (s := 42 :: 32 :: (w ++ [32, 42])) (c := 42) (k := 1) (.inl ⟨rfl, rfl⟩) Inv.first (by simp) rfl rfl (.inr (.inr (rfl : blank 32 = true)))]
  have h1 := (Inv.first.write [42])
  rw [R_plain (s := 42 :: 32 :: (w ++ [32, 42])) (i := 0 + 1) (pre := [42]) (w := 32 :: (w ++ [32])) (suf := [42]) (h1.more (by simp)) (by simp) rfl hwp, write_write]
  have h2 := (Inv.first.write ([42] ++ 32 :: (w ++ [32])))
  have e : (42 :: 32 :: (w ++ [32, 42])).getD (0 + 1 + (32 :: (w ++ [32])).length) 0 = 42 := by
    have := at_mid (42 :: 32 :: (w ++ [32])) [] 42
    have e : 0 + 1 + (32 :: (w ++ [32])).length = (42 :: 32 :: (w ++ [32]) : Bs).length := by simp; omega
    rw [e, ← this]; simp
  rw [run_signtext (c := 42) (k := 1) (.inl ⟨rfl, rfl⟩) (h2.more (by simp; omega)) (by simp; try omega) e (lastK_first 1 _) (.inr (.inl (by simp; try omega))), write_write, R_end (by simp; try omega), end_first]
  simp
theorem text_between {w : Bs} (hw : small w = true) (hn : w ≠ []) : AllText (w ++ 95 :: (w ++ 95 :: w)) := by
  have hl := List.length_pos_iff.2 hn
  unfold AllText
  rw [endP_eq, R_plain (s := w ++ 95 :: (w ++ 95 :: w)) (i := 0) (pre := []) (w := w) (suf := 95 :: (w ++ 95 :: w)) Inv.first rfl rfl (small_plain hw)]
  have h1 := (Inv.first.write w)
  have e : (w ++ 95 :: (w ++ 95 :: w)).getD (0 + w.length) 0 = 95 := by rw [Nat.zero_add]; exact at_mid _ _ _
  have e1 : (w ++ 95 :: (w ++ 95 :: w)).getD (0 + w.length - 1) 0 = w.getD (w.length - 1) 0 := by rw [Nat.zero_add]; exact getD_app_left (by omega)
  rw [run_signtext (c := 95) (k := 2) (.inr ⟨rfl, rfl⟩) h1 (by simp; try omega) e (lastK_first 2 _) (.inl ⟨by omega, by rw [e1]; exact small_last hw hn⟩), write_write]
  have h2 := (Inv.first.write (w ++ [95]))
  rw [R_plain (s := w ++ 95 :: (w ++ 95 :: w)) (i := 0 + w.length + 1) (pre := w ++ [95]) (w := w) (suf := 95 :: w) (h2.more (by simp)) (by simp) (by simp) (small_plain hw), write_write]
  have h3 := (Inv.first.write (w ++ [95] ++ w))
  have e : (w ++ 95 :: (w ++ 95 :: w)).getD (0 + w.length + 1 + w.length) 0 = 95 := by
    have := at_mid (w ++ 95 :: w) w 95
    have e : 0 + w.length + 1 + w.length = (w ++ 95 :: w : Bs).length := by simp; omega
    rw [e, ← this]; simp
  have e2 : (w ++ 95 :: (w ++ 95 :: w)).getD (0 + w.length + 1 + w.length - 1) 0 = w.getD (w.length - 1) 0 := by
    rw [getD_app_right (by omega), show 0 + w.length + 1 + w.length - 1 - w.length = (w.length - 1) + 1 by omega]
    show (w ++ 95 :: w).getD (w.length - 1) 0 = _
    exact getD_app_left (by omega)
  rw [run_signtext (c := 95) (k := 2) (.inr ⟨rfl, rfl⟩) (h3.more (by simp; try omega)) (by simp; try omega) e (lastK_first 2 _) (.inl ⟨by omega, by rw [e2]; exact small_last hw hn⟩), write_write]
  have h4 := (Inv.first.write (w ++ [95] ++ w ++ [95]))
  rw [R_plain (s := w ++ 95 :: (w ++ 95 :: w)) (i := 0 + w.length + 1 + w.length + 1) (pre := w ++ 95 :: (w ++ [95])) (w := w) (suf := []) (h4.more (by simp; omega)) (by simp) (by simp; omega) (small_plain hw), write_write, R_end (by simp; try omega), end_first]
  simp
/-- a note of two styled words -/
theorem end_note {w : Bs} (hw : small w = true) (hn : w ≠ []) : endP (94 :: 91 :: 42 :: (w ++ 42 :: 32 :: 95 :: (w ++ [95, 93]))) = ⟨[⟨⟨[⟨6, [], [], [], [⟨1, [], [], [], [txt w]⟩, txt [32], ⟨2, [], [], [], [txt w]⟩]⟩], []⟩, 0, [], 0⟩], []⟩ := by
  have hl := List.length_pos_iff.2 hn
  obtain ⟨s, hs⟩ : ∃ s : Bs, s = 94 :: 91 :: 42 :: (w ++ 42 :: 32 :: 95 :: (w ++ [95, 93])) := ⟨_, rfl⟩
  have hsl : s.length = w.length + w.length + 8 := by rw [hs]; simp; omega
  rw [← hs, endP_eq, R_step Inv.first (by omega), step_note _ (by omega) (by rw [hs]; rfl) (by rw [hs]; rfl) rfl]
  have hI : Inv (Pst.first.begin 6 0 [94, 91]) 2 := Inv.first.begin rfl 6 0 [94, 91] (by simp)
  show (R s 2 (Pst.first.begin 6 0 [94, 91])).drop 0 = _
  rw [run_styled (s := s) (i := 2) (c := 42) (k := 1) (w := w) (pre := [94, 91]) (suf := 32 :: 95 :: (w ++ [95, 93])) (.inl ⟨rfl, rfl⟩) hw hn (by rw [hs]; simp) rfl hI rfl rfl (by rw [hs]; exact fun h => absurd h.2 (show ¬ solid 91 = true by decide)) (.inr (by rfl))]
  have hI1 := (hI.top (n := 1) (g := (·.add ⟨1, [], [], [], [txt w]⟩)) (fun r => by have := wtR_add r ⟨1, [], [], [], [txt w]⟩; simpa [wtS] using this))
  have g1 : s.getD (2 + (w.length + 2)) 0 = 32 := by
    have := at_mid (94 :: 91 :: 42 :: (w ++ [42])) (95 :: (w ++ [95, 93])) 32
    have e : 2 + (w.length + 2) = (94 :: 91 :: 42 :: (w ++ [42]) : Bs).length := by simp; omega
    rw [hs, e, ← this]; simp
  rw [R_plain (s := s) (i := 2 + (w.length + 2)) (pre := 94 :: 91 :: 42 :: (w ++ [42])) (w := [32]) (suf := 95 :: (w ++ [95, 93])) (hI1.more (by omega)) (by rw [hs]; simp) (by simp; omega) (by decide)]
  have hI2 := hI1.write [32]
  have g2 : s.getD (2 + (w.length + 2) + [(32 : UInt8)].length - 1) 0 = 32 := g1
  rw [run_styled (s := s) (i := 2 + (w.length + 2) + [(32 : UInt8)].length) (c := 95) (k := 2) (w := w) (pre := 94 :: 91 :: 42 :: (w ++ [42, 32])) (suf := [93]) (.inr ⟨rfl, rfl⟩) hw hn (by rw [hs]; simp) (by simp; omega) (hI2.more (by simp only [List.length_cons, List.length_nil]; omega)) (by rw [lastK_write]; rfl) rfl (by rw [g2]; exact fun h => absurd h.2 (show ¬ solid 32 = true by decide)) (.inr (by decide))]
  have hI3 := (hI2.top (n := 1) (g := (·.add ⟨2, [], [], [], [txt w]⟩)) (fun r => by have := wtR_add r ⟨2, [], [], [], [txt w]⟩; simpa [wtS] using this))
  have g3 : s.getD (2 + (w.length + 2) + [(32 : UInt8)].length + (w.length + 2)) 0 = 93 := by
    have := at_mid (94 :: 91 :: 42 :: (w ++ 42 :: 32 :: 95 :: (w ++ [95]))) [] 93
    have e : 2 + (w.length + 2) + [(32 : UInt8)].length + (w.length + 2) = (94 :: 91 :: 42 :: (w ++ 42 :: 32 :: 95 :: (w ++ [95])) : Bs).length := by simp; omega
    rw [hs, e, ← this]; simp
  have hst : ((((Pst.first.begin 6 0 [94, 91]).top (·.add ⟨1, [], [], [], [txt w]⟩)).write [32]).top (·.add ⟨2, [], [], [], [txt w]⟩)) = ⟨[⟨⟨[⟨1, [], [], [], [txt w]⟩, txt [32], ⟨2, [], [], [], [txt w]⟩], []⟩, 6, [94, 91], 0⟩, ⟨Rw.none, 0, [], 0⟩], []⟩ := by
    simp [Pst.first, Pst.begin, Pst.top, Pst.write, onTop, Rw.add, Rw.write, Rw.flush, Rw.none]
  have hf := fin_top (f := ⟨⟨[⟨1, [], [], [], [txt w]⟩, txt [32], ⟨2, [], [], [], [txt w]⟩], []⟩, 6, [94, 91], 0⟩) (r := [⟨Rw.none, 0, [], 0⟩]) (fa := []) (by simp)
  have hk6 : lastK 6 (Pst.mk [⟨⟨[⟨1, [], [], [], [txt w]⟩, txt [32], ⟨2, [], [], [], [txt w]⟩], []⟩, 6, [94, 91], 0⟩, ⟨Rw.none, 0, [], 0⟩] []).fs = 1 := rfl
  rw [hst] at hI3 ⊢
  simp only [List.length_cons, List.length_nil] at hf
  generalize hst2 : Pst.mk [⟨⟨[⟨1, [], [], [], [txt w]⟩, txt [32], ⟨2, [], [], [], [txt w]⟩], []⟩, 6, [94, 91], 0⟩, ⟨Rw.none, 0, [], 0⟩] [] = st2 at hI3 hf hk6 ⊢
  rw [R_step (hI3.more (by simp only [List.length_cons, List.length_nil]; omega)) (by simp only [List.length_cons, List.length_nil]; omega), step_shut st2 (by simp only [List.length_cons, List.length_nil]; omega) g3 (by rw [hk6]; omega), R_end (by simp only [List.length_cons, List.length_nil]; omega), hk6]
  simp only
  rw [show (1 : Nat) = 0 + 1 from rfl, hf]
  rfl
end Go.Bd
namespace Go.Bd
open Go.RowKit
def frame0 : Array Value := #[.slice none 0 0, .slice none 0 0, .int .u8 0, .string ⟨#[]⟩, .int .i64 0]
def colFirst (B : Nat) (b : Nat) : Nat := if b < B then 5 else if b = B then 1 else if b = B + 1 then 2 else if b = B + 2 then 0 else 9
def firstW (w : World) (s : ByteArray) : World := ((w.alloc (.cells frame0 tF)).alloc (.map #[] 0)).alloc (.cells #[.string s, .slice (some ⟨w.heap.size, 0, none⟩) 1 1, .slice none 0 0, .map (some (w.heap.size + 1))] tP)
theorem psFirst (P : Program) (w : World) (s : ByteArray) : PSx P (firstW w s) w.heap.size (colFirst w.heap.size) (w.heap.size + 1 + 1) w.heap.size 1 1 s Pst.first 0 (.slice none 0 0) (w.heap.size + 1) frame0 [] := by
  have hz : (firstW w s).heap.size = w.heap.size + 3 := by simp [firstW]
  have hp : Holds (firstW w s) (w.heap.size + 1 + 1) tP #[.string s, .slice (some ⟨w.heap.size, 0, none⟩) 1 1, .slice none 0 0, .map (some (w.heap.size + 1))] := by
    have := Holds.new ((w.alloc (.cells frame0 tF)).alloc (.map #[] 0)) tP #[.string s, .slice (some ⟨w.heap.size, 0, none⟩) 1 1, .slice none 0 0, .map (some (w.heap.size + 1))]
    simpa [firstW] using this
  have ho : Holds (firstW w s) w.heap.size tF frame0 := ((Holds.new w tF frame0).alloc _).alloc _
  refine ⟨by omega, hp, by unfold colFirst; rw [if_neg (by omega), if_neg (by omega), if_neg (by omega), if_pos (by omega)], by omega, ho, by simp [colFirst], rfl, by omega, by simp [Pst.first], by unfold maxLen; omega, ?_, World.ownsRow_nil _ _ _ _, (fun b hb => by cases hb), by omega, ?_, by simp [colFirst]; try omega, (fun g hg => by cases hg), by simp, fun b hb => ?_, fun b hb => ?_⟩
  · intro k f hf
    have hk : k = 0 := by
      have := (List.getElem?_eq_some_iff.1 hf).1
      simp [Pst.first] at this
      omega
    subst hk
    simp only [Pst.first, List.reverse_singleton, List.getElem?_cons_zero, Option.some.injEq] at hf
    subst hf
    exact ⟨.slice none 0 0, .slice none 0 0, ⟨rfl, rfl, rfl, rfl, rfl, SpanRow.nil _ _ _ _, World.ownsRow_nil _ _ _ _, (fun b hb => by cases hb), (fun b hb => by cases hb)⟩⟩
  · have h1 := World.ownsMap_made (H := Unit) (w.alloc (.cells frame0 tF)) P 9 unitElem
    have h2 : (firstW w s).ownsMap (H := Unit) P 9 unitElem (w.heap.size + 1) 0 (.map []) := by
      have h3 := h1.kept (w' := firstW w s) (row := none) ⟨rfl, rfl, rfl, by simp [firstW], fun k hk _ => Below.heap_alloc _ _ k hk⟩ (by simp)
      simpa using h3
    exact h2
  · rw [hz] at hb
    unfold colFirst
    rw [if_neg (by omega), if_neg (by omega), if_neg (by omega), if_neg (by omega)]
  · unfold colFirst
    rw [if_pos hb]
/-- the faults that Parse answers -/
def FaultRow (w : World) (B : Nat) (v : Value) (l : List Nat) : Prop := w.ownsRow B 36 1 v l.length (l.map fun (f : Nat) => Value.int .i64 (f : Int))
end Go.Bd
namespace Go.Proofs.YtcjmfjccjhdgjaaGreatDoor
open Go.RowKit Go.Bd
theorem fault_info : (Tryz.prog.info? 36).map (fun i => (i.zero, i.size, i.bytes)) = some (some (.int .i64 0), 1, 8) := by kernel_rfl
theorem make_frame (w : World) : (Instr.makeSlice 130 (.int .i64 1) (.int .i64 1)).run Tryz.prog w = .ok (.slice (some ⟨w.heap.size, 0, none⟩) 1 1) (w.alloc (.cells frame0 142)) := by
  obtain ⟨i0, hi, hz0, hz1, hz2⟩ := info_parts frame_info
  have h := run_make (P := Tryz.prog) w 130 142 i0 _ Tryz.underlying130 hi hz0 .i64 .i64 1 1 (by omega) (Int.le_refl _) (by rw [hz2]; decide) (by decide)
  rw [hz1] at h
  have e : madeCells (Value.agg #[.slice none 0 0, .slice none 0 0, .int .u8 0, .string ⟨#[]⟩, .int .i64 0]).cells (Int.toNat 1 * 5) = frame0 := by first | rfl | kernel_rfl | decide
  rw [e] at h
  exact h
theorem make_map (w : World) : (Instr.makeMap 131 none).run Tryz.prog w = .ok (.map (some w.heap.size)) (w.alloc (.map #[] 0)) := by first | rfl | kernel_rfl
set_option maxRecDepth 100000 in
set_option maxHeartbeats 4000000 in
theorem parseSpans_fresh (s : ByteArray) (w : World) (hs : s.size ≤ 100000) (m : Int) (hm : w.cell? ⟨0, 0, none⟩ = some (.int .i64 m)) :
    Calls Tryz.prog 56 #[.string s] w fun e w' => ∃ sv fv, e = .returned (.tuple #[sv, fv]) ∧ Below w.heap.size w w' ∧ Forest w' (fun b => w.heap.size ≤ b ∧ b < w'.heap.size) sv (spansOf s.data.toList) ∧ FaultRow w' w.heap.size fv (faultsOf s.data.toList) := by
  have hB : 0 < w.heap.size := World.block_lt_of_cell? w _ hm
  have mf := make_frame w
  have HF := Lib.hid (psFirst Tryz.prog w s)
  have HM := Lib.hid hm
  have hls : s.data.toList.length = s.size := by simp
  have HLS := Lib.hid hls
  clear hm hls
  go_enter Tryz.func56, Tryz.ntmps56
  go_wp2_with fail
  rw [make_map]
  clear mf
  simp only [Result.andThen]
  rw [Oper.upon_value]
  go_wp2
  go_loopg [5] (s.size) (fun q v wr => ∃ (i : Nat) (st : Pst) (col : Nat → Nat) (ob cap : Nat) (fv : Value) (cs : Array Value) (gn : List Bs), i + q = s.size ∧ v = .int .i64 (i : Int) ∧ Hid (Bd.Inv st i ∧ R s.data.toList i st = R s.data.toList 0 Pst.first ∧ PSx Tryz.prog wr w.heap.size col (w.heap.size + 1 + 1) ob cap st.fs.length s st i fv (w.heap.size + 1) cs gn ∧ Below w.heap.size w wr))
  case atStart =>
    refine ⟨0, Pst.first, _, _, _, _, _, _, by omega, rfl, Inv.first, rfl, HF.out, ?_⟩
    exact (((Below.refl _ _).alloc (Nat.le_refl _) _).alloc (by simp) _).alloc (by simp; omega) _
  case round =>
    clear HF
    obtain ⟨i, st, col, ob, cap, fv, cs, gn, hq, rfl, HR⟩ := hrel
    obtain ⟨hI, hRR, hP, hb⟩ := HR.out
    by_cases hlt : i < s.size
    · have cst := step_any hP rfl hI hlt hs m ((hb.cell (p := ⟨0, 0, none⟩) hB).trans HM.out) hB
      obtain ⟨h3, h4, h5⟩ := hI.step (s := s.data.toList) (by rw [HLS.out]; exact hlt)
      rw [HLS.out] at h5
      have hRS : R s.data.toList (st.step s.data.toList i).2 (st.step s.data.toList i).1 = R s.data.toList 0 Pst.first := by rw [← R_step hI (by rw [HLS.out]; exact hlt)]; exact hRR
      have HRS := Lib.hid hRS
      have HI3 := Lib.hid h3
      have HB := Lib.hid hb
      clear hI hRR hP hb HR h3 hRS
      generalize (st.step s.data.toList i).2 = j at cst h4 h5 HRS HI3
      generalize (st.step s.data.toList i).1 = st' at cst HRS HI3
      go_wp2_with (go_at_call 78; refine cst.mono ?_; clear cst; rintro e w' ⟨rfl, hpost⟩)
      have HPost := Lib.hid hpost
      clear hpost
      go_roundg (s.size - j)
      case measure => omega
      case rel =>
        obtain ⟨col', ob', cap', fv', cs', gn', h6, h7⟩ := HPost.out
        exact ⟨j, st', col', ob', cap', fv', cs', gn', by omega, rfl, HI3.out, HRS.out, h6, HB.out.trans h7.below⟩
    · obtain rfl : i = s.size := by omega
      have hst : st.drop 0 = endP s.data.toList := by
        rw [endP_eq, ← hRR, R_end (by rw [HLS.out]; exact Nat.le_refl _)]
      have hI1 := (hI.drop (n := 0) hI.2.2.1).1
      have cd := drop_any hP rfl 0 hI.2.2.1 s.size hI hs
      rw [hst] at cd hI1
      have hfa : (endP s.data.toList).faults = faultsAt s.data.toList := rfl
      have hnd := faults_nodup s.data.toList
      have HSO : Hid (spansOf s.data.toList = match (endP s.data.toList).fs with | f :: _ => f.row.flush.sp | [] => []) := rfl
      have HFO : Hid (faultsOf s.data.toList = (sortF (endP s.data.toList).faults).map (·.2)) := rfl
      rw [← hfa] at hnd
      obtain ⟨f, hfs⟩ := endP_one s.data.toList
      generalize endP s.data.toList = ed at cd hI1 hfs hnd HSO HFO
      have hwt : wtF f ≤ s.size := by
        have := hI1.1
        rw [hfs, wtFs_cons] at this
        omega
      have hsl : f.row.sp.length ≤ 100000 ∧ f.row.tx.length ≤ 100000 := by
        have := wtL_len f.row.sp
        unfold wtF wtR at hwt
        omega
      obtain ⟨hsl1, hsl2⟩ := hsl
      have hfl : ed.faults.length ≤ 100001 := by have := hI1.2.1; omega
      have HFS := Lib.hid hfs
      have HND := Lib.hid hnd
      have HB := Lib.hid hb
      clear hI hRR hP hb HR hst hI1 hfa hfs hwt hnd
      go_wp2_with fail
      refine cd.mono ?_
      clear cd
      rintro e w1 ⟨rfl, col1, fv1, cs1, h1, st1⟩
      have H1 := Lib.hid h1
      have HB1 := Lib.hid (HB.out.trans st1.below)
      clear h1 st1
      go_wp2_with fail
      refine (top_any (n := 0) H1.out (by omega)).mono ?_
      rintro e w2 ⟨rfl, kk, rfl⟩
      have cf := flushTop_any (PSx.drewN H1.out kk) HFS.out (by omega) (by omega)
      go_wp2_with fail
      refine cf.mono ?_
      clear cf
      rintro e w3 ⟨rfl, col3, cs3, h3, st3⟩
      have hfs3 : (ed.top (·.flush)).fs = [{ f with row := f.row.flush }] := by simp [Pst.top, onTop, HFS.out]
      have HFS3 := Lib.hid hfs3
      have hfa3 : (ed.top (·.flush)).faults = ed.faults := rfl
      have csr := sort_any h3.hf (by rw [hfa3]; exact HND.out) (by rw [hfa3]; omega)
      have hf3 := h3.hf
      rw [hfa3] at csr hf3
      have d2 := h3.hp.cell 2
      have H3 := Lib.hid h3
      have HB3 := Lib.hid (HB1.out.trans st3.undrew.below)
      clear h3 st3 hfs3 hfa3
      go_wp2_with fail
      refine csr.mono ?_
      clear csr
      rintro e w4 ⟨rfl, hch4, ho4⟩
      have hsl4 : (sortF ed.faults).length = ed.faults.length := (sortF_perm _).length_eq
      obtain ⟨col4, h4, st4⟩ := H3.out.faults (fa := sortF ed.faults) hch4 (fun b hb => .inr hb) (hch4.holds (fun e => by have h1 := H3.out.cf _ e; have h2 := H3.out.cp; omega) H3.out.hp) (by rw [hsl4]; exact ho4) (fun b hb => .inl hb)
      have e2 := h4.hp.cell 2
      have H4 := Lib.hid h4
      have HB4 := Lib.hid (HB3.out.trans st4.below)
      have HHP := Lib.hid h4.hp
      have hB4 : w.heap.size ≤ w4.heap.size := HB4.out.size
      clear h4 st4 hch4 d2 hf3
      have HSL := Lib.hid hsl4
      clear hsl4
      generalize hn : ed.faults.length = n at hfl ho4 HSL
      obtain ⟨A, c, rfl, hle⟩ := own_slice2 ho4
      have HC : Hid (∀ (j : Nat) (p : Nat × Nat), (sortF ed.faults)[j]? = some p → ∃ g, A = some ⟨g, 0, none⟩ ∧ g < w4.heap.size ∧ w4.cell? ⟨g, j * 2, none⟩ = some (.int .i64 (p.1 : Int)) ∧ w4.cell? ⟨g, j * 2 + 1, none⟩ = some (.int .i64 (p.2 : Int))) := fun j p hj => by
        have hjl : j < n := by have := (List.getElem?_eq_some_iff.1 hj).1; rw [HSL.out] at this; exact this
        have hpe : (sortF ed.faults)[j]! = p := by rw [List.getElem!_eq_getElem?_getD, hj]; rfl
        rcases ho4.2 with ⟨_, h0⟩ | ⟨g, cap', cur, hv, hg, hh, hc, hm, hs, ht⟩
        · omega
        · injection hv with h1 _ _
          have get : ∀ q, q < 2 → w4.cell? ⟨g, j * 2 + q, none⟩ = (encT p)[q]? := fun q hq => by
            have := toldCells_get (sortF ed.faults) (j * 2 + q) (by rw [HSL.out]; omega)
            rw [← ht, List.getElem?_take_of_lt (by omega), Array.getElem?_toList, show (j * 2 + q) / 2 = j by omega, show (j * 2 + q) % 2 = q by omega, hpe] at this
            exact (Holds.cell hh _).trans this
          exact ⟨g, h1, (Array.getElem?_eq_some_iff.1 hh).1, get 0 (by omega), get 1 (by omega)⟩
      have HLE := Lib.hid hle
      have HO4 := Lib.hid ho4
      have HN := Lib.hid hn
      clear ho4 hle hn
      go_wp2
      go_loopg [6, 38] n (fun q v idx wr => ∃ k : Nat, k + q = n ∧ idx = .int .i64 (k : Int) ∧ Hid (wr.ownsRow w4.heap.size 36 1 v k (((sortF ed.faults).map fun (p : Nat × Nat) => Value.int .i64 (p.2 : Int)).take k) ∧ Below w4.heap.size w4 wr))
      case atStart => exact ⟨0, by omega, rfl, World.ownsRow_nil _ _ _ _, Below.refl _ _⟩
      case round =>
        obtain ⟨k, hk, rfl, HR⟩ := hrel
        obtain ⟨hown, hbl⟩ := HR.out
        have hsz := hbl.size
        by_cases hlt : k < n
        · obtain ⟨p, hp⟩ : ∃ p, (sortF ed.faults)[k]? = some p := ⟨_, List.getElem?_eq_getElem (by rw [HSL.out]; exact hlt)⟩
          obtain ⟨g, rfl, hg, p1, p2⟩ := HC.out k p hp
          replace p1 := (hbl.cell (p := ⟨g, k * 2, none⟩) hg).trans p1
          replace p2 := (hbl.cell (p := ⟨g, k * 2 + 1, none⟩) hg).trans p2
          have HT := Lib.hid (show ((sortF ed.faults).map (fun (p : Nat × Nat) => Value.int .i64 (p.2 : Int))).take (k + 1) = ((sortF ed.faults).map (fun (p : Nat × Nat) => Value.int .i64 (p.2 : Int))).take k ++ [.int .i64 (p.2 : Int)] by
            rw [List.take_add_one, List.getElem?_map, hp]; rfl)
          have HBL := Lib.hid hbl
          clear HR hp hbl
          have hN := Holds.new (wr.alloc (.cells #[.int .i64 (p.1 : Int), .int .i64 (p.2 : Int)] 145)) 36 #[.int .i64 (p.2 : Int)]
          rw [show (wr.alloc (.cells #[.int .i64 (p.1 : Int), .int .i64 (p.2 : Int)] 145)).heap.size = wr.heap.size + 1 by simp] at hN
          have HNW := Lib.hid hN
          clear hN
          go_wp2_with (at_builtin; refine wpList_app_el _ rfl _ _ 105 rfl w4.heap.size 36 (.int .i64 0) 1 8 Tryz.underlying105 fault_info rfl (by omega) _ k _ rfl ((hown.alloc _).alloc _) _ 1 [.int .i64 (p.2 : Int)] rfl rfl HNW.out (by simp [Value.oneCell']) (by omega) (by omega) (by simp; omega) ?_)
          intro v1 w5 ho5 hg5 hn5
          have hb5 : Below w4.heap.size w4 w5 := ((HBL.out.alloc hsz (.cells #[.int .i64 (p.1 : Int), .int .i64 (p.2 : Int)] 145)).alloc (by simp; omega) (.cells #[.int .i64 (p.2 : Int)] 36)).trans ((Chg.grown hg5).toBelow (by simp; omega) (fun b hb => (hown.lt b hb.symm).1))
          rw [← HT.out] at ho5
          have HR5 := Lib.hid (And.intro ho5 hb5)
          clear hown hg5 hn5 ho5 hb5
          go_wp2
          go_roundg (gk - 1)
          case measure => omega
          case rel => exact ⟨k + 1, by omega, by go_num, HR5.out⟩
        · obtain rfl : k = n := by omega
          have h5 := H4.out.keep (Chg.below hbl (fun _ => False)) (fun _ h => h.elim)
          obtain ⟨sv, tv, hfr⟩ := h5.fr 0 { f with row := f.row.flush } (by rw [HFS3.out]; rfl)
          obtain ⟨q0, _, _, _, _⟩ := frame_cells hfr h5.ho
          have q0' : wr.cell? ⟨ob, 0, none⟩ = some sv := by simpa using q0
          have HFR : Hid (Forest wr (fun b => w.heap.size ≤ b ∧ b < wr.heap.size) sv f.row.flush.sp) := hfr.sp.forest (fun b hb => ⟨h5.ge4 hb, h5.lt4 hb⟩) (fun b hb => hfr.sp.lt b hb)
          have H5 := Lib.hid h5
          have HBW := Lib.hid (HB4.out.trans (hbl.mono hB4))
          clear h5 hfr q0 HR hbl
          go_wp2_with fail
          refine (top_any (n := 0) H5.out (by omega)).mono ?_
          rintro e w6 ⟨rfl, kk6, rfl⟩
          go_wp2
          go_ret2
          have hso : spansOf s.data.toList = f.row.flush.sp := by rw [HSO.out, HFS.out]
          have hfo : faultsOf s.data.toList = (sortF ed.faults).map (·.2) := HFO.out
          refine ⟨sv, _, rfl, ?_, ?_, ?_⟩
          · exact ⟨HBW.out.os, HBW.out.tape, HBW.out.output, HBW.out.size, HBW.out.block⟩
          · rw [hso]; exact HFR.out.keep (fun _ h => h) (fun _ _ _ h => h)
          · unfold FaultRow
            rw [hfo, List.length_map, HSL.out, List.map_map]
            rw [List.take_of_length_le (by rw [List.length_map, HSL.out]; exact Nat.le_refl _)] at hown
            exact ⟨hown.1, hown.2.imp id (fun ⟨g, cap, cur, a, b, r⟩ => ⟨g, cap, cur, a, by omega, r⟩)⟩
theorem parseSpans_any (s : ByteArray) (w : World) (hs : s.size ≤ 100000) (m : Int) (hm : w.cell? ⟨0, 0, none⟩ = some (.int .i64 m)) :
    Calls Tryz.prog 56 #[.string s] w fun e w' => ∃ sv fv, e = .returned (.tuple #[sv, fv]) ∧ Below w.heap.size w w' ∧ Forest w' (· < w'.heap.size) sv (spansOf s.data.toList) ∧ FaultRow w' w.heap.size fv (faultsOf s.data.toList) := by
  refine (parseSpans_fresh s w hs m hm).mono ?_
  rintro e w' ⟨sv, fv, he, hb, hf, hr⟩
  exact ⟨sv, fv, he, hb, hf.keep (fun _ h => h.2) (fun _ _ _ h => h), hr⟩
end Go.Proofs.YtcjmfjccjhdgjaaGreatDoor
namespace Go.Bd
open Go.RowKit
def spareB : Bs := [115, 112, 97, 114, 101]
/-- the cells of the mark -/
def markCells : List Value := [.int .u8 0, strV spareB, strV [], strV [], .slice none 0 0]
/-- the slice v reads asf these spans, in blocks of F, with a mark behind each list -/
inductive Marked (w : World) (F : Nat → Prop) : Value → List Sp → Prop
  | mk (g c : Nat) (l : List Sp) (kvs : List Value) (hlen : kvs.length = l.length) (hc : l.length < c) (hF : F g)
      (hA : ∀ (j : Nat) x kv, l[j]? = some x → kvs[j]? = some kv → ∀ (i : Nat) u, (spCells x kv)[i]? = some u → w.cell? ⟨g, j * 5 + i, none⟩ = some u)
      (hS : ∀ (i : Nat) u, markCells[i]? = some u → w.cell? ⟨g, l.length * 5 + i, none⟩ = some u)
      (hk : ∀ (j : Nat) x kv, l[j]? = some x → kvs[j]? = some kv → Marked w F kv x.kids) : Marked w F (.slice (some ⟨g, 0, none⟩) l.length c) l
section
variable {w w' : World} {F G : Nat → Prop} {v : Value} {l : List Sp}
theorem Marked.keep (h : Marked w F v l) (hk : ∀ b, F b → G b) (hc : ∀ (p : Addr) u, F p.block → w.cell? p = some u → w'.cell? p = some u) : Marked w' G v l := by
  induction h with
  | mk g c l kvs hlen hcap hF hA hS _ ih =>
    exact .mk g c l kvs hlen hcap (hk g hF) (fun j x kv e1 e2 i u e3 => hc ⟨g, j * 5 + i, none⟩ u hF (hA j x kv e1 e2 i u e3)) (fun i u e => hc ⟨g, l.length * 5 + i, none⟩ u hF (hS i u e)) (fun j x kv e1 e2 => ih j x kv e1 e2)
theorem Marked.chg {S : Nat → Prop} (h : Marked w F v l) (hc : Chg w w' S) (hk : ∀ b, F b → G b) (hS : ∀ b, F b → ¬ S b) : Marked w' G v l :=
  h.keep hk fun _ _ hF hu => hc.cell (hS _ hF) hu
theorem Marked.under {B : Nat} (h : Marked w F v l) (hb : Below B w w') (hF : ∀ b, F b → b < B) : Marked w' F v l :=
  h.keep (fun _ h => h) fun p u hp hu => (hb.cell (hF _ hp)).trans hu
theorem Marked.forest (h : Marked w F v l) : Forest w F v l := by
  induction h with
  | mk g c l kvs hlen hcap hF hA hS _ ih =>
    exact .mk (some ⟨g, 0, none⟩) c l kvs hlen (Nat.le_of_lt hcap) (fun _ => ⟨g, 0, rfl, hF, fun j x kv e1 e2 i u e3 => by rw [Nat.zero_add]; exact hA j x kv e1 e2 i u e3⟩) (fun j x kv e1 e2 => ih j x kv e1 e2)
/-- asf the walk wants it -/
theorem Marked.form (h : Marked w F v l) : ∃ g c, v = .slice (some ⟨g, 0, none⟩) l.length c ∧ l.length < c ∧ F g ∧
    (∀ (i : Nat) u, markCells[i]? = some u → w.cell? ⟨g, l.length * 5 + i, none⟩ = some u) ∧
    ∀ (j : Nat) x, l[j]? = some x → ∃ kv, Marked w F kv x.kids ∧
      w.cell? ⟨g, j * 5, none⟩ = some (.int .u8 (x.kind : Int)) ∧ w.cell? ⟨g, j * 5 + 1, none⟩ = some (strV x.text) ∧ w.cell? ⟨g, j * 5 + 2, none⟩ = some (strV x.sub) ∧ w.cell? ⟨g, j * 5 + 3, none⟩ = some (strV x.see) ∧ w.cell? ⟨g, j * 5 + 4, none⟩ = some kv := by
  cases h with
  | mk g c l kvs hlen hcap hF hA hS hk =>
    refine ⟨g, c, rfl, hcap, hF, hS, fun j x hx => ?_⟩
    have hj : j < l.length := (List.getElem?_eq_some_iff.1 hx).1
    obtain ⟨kv, hkv⟩ : ∃ kv, kvs[j]? = some kv := ⟨_, List.getElem?_eq_getElem (by omega)⟩
    exact ⟨kv, hk j x kv hx hkv, hA j x kv hx hkv 0 _ rfl, hA j x kv hx hkv 1 _ rfl, hA j x kv hx hkv 2 _ rfl, hA j x kv hx hkv 3 _ rfl, hA j x kv hx hkv 4 _ rfl⟩
/-- a row of its own, with a mark behind, is such a list -/
theorem twin_of_row {B : Nat} {t : TypeId} {g cap : Nat} {kvs : List Value} (hkl : kvs.length = l.length) (hro : w.ownsRow B t 5 (.slice (some ⟨g, 0, none⟩) (l.length + 1) cap) (l.length + 1) (rowCells l kvs ++ markCells)) (hF : F g)
    (hk : ∀ (j : Nat) x kv, l[j]? = some x → kvs[j]? = some kv → Marked w F kv x.kids) : Marked w F (.slice (some ⟨g, 0, none⟩) l.length cap) l := by
  have hrl : (rowCells l kvs).length = l.length * 5 := rowCells_length hkl
  have hcap : l.length < cap := by
    rcases hro.2 with ⟨h, _⟩ | ⟨g', cap', cur, hv, _, _, hc, _⟩
    · cases h
    · injection hv with e1 e2 e3; omega
  refine .mk g cap l kvs hkl hcap hF (fun j x kv e1 e2 i u e3 => ?_) (fun i u e => ?_) hk
  · have h1 := rowCells_get e1 e2 e3
    have hlt : j * 5 + i < (rowCells l kvs).length := (List.getElem?_eq_some_iff.1 h1).1
    have := hro.cells (g := g) rfl (j * 5 + i) u (by rw [List.getElem?_append_left hlt]; exact h1)
    rw [addr_add] at this
    exact this
  · have := hro.cells (g := g) rfl (l.length * 5 + i) u (by rw [List.getElem?_append_right (by omega), hrl, Nat.add_sub_cancel_left]; exact e)
    rw [addr_add] at this
    exact this
end
end Go.Bd
namespace Go.Bd
mutual
def sz1 : Sp → Nat
  | ⟨_, t, u, v, kids⟩ => 1 + t.length + u.length + v.length + szL kids
/-- how much spans have -/
def szL : List Sp → Nat
  | [] => 0
  | x :: l => 1 + sz1 x + szL l
end
mutual
def dp1 : Sp → Nat
  | ⟨_, _, _, _, kids⟩ => 1 + dpL kids
/-- how deep they stand -/
def dpL : List Sp → Nat
  | [] => 0
  | x :: l => max (dp1 x) (dpL l)
end
theorem szL_app : ∀ a b : List Sp, szL (a ++ b) = szL a + szL b
  | [], b => by simp [szL]
  | x :: a, b => by rw [List.cons_append, szL, szL, szL_app a b]; omega
theorem szL_take {l : List Sp} {k : Nat} {x : Sp} (h : l[k]? = some x) : szL (l.take (k + 1)) = szL (l.take k) + (1 + sz1 x) := by
  rw [List.take_add_one, h, szL_app]; simp [szL]
theorem szL_le {l : List Sp} {k : Nat} : szL (l.take k) ≤ szL l := by
  have := szL_app (l.take k) (l.drop k)
  rw [List.take_append_drop] at this
  omega
theorem sz_get {l : List Sp} {k : Nat} {x : Sp} (h : l[k]? = some x) : szL (l.take k) + 1 + sz1 x ≤ szL l := by
  have h1 := szL_take h
  have h2 := szL_le (l := l) (k := k + 1)
  omega
theorem sz1_eq (x : Sp) : sz1 x = 1 + x.text.length + x.sub.length + x.see.length + szL x.kids := by
  obtain ⟨k, t, u, v, ks⟩ := x; simp only [sz1]
theorem szL_len : ∀ l : List Sp, l.length ≤ szL l
  | [] => Nat.zero_le _
  | x :: l => by have := szL_len l; simp only [szL, List.length_cons]; omega
theorem dp1_eq (x : Sp) : dp1 x = 1 + dpL x.kids := by obtain ⟨k, t, u, v, ks⟩ := x; simp only [dp1]
theorem dpL_app : ∀ a b : List Sp, dpL (a ++ b) = max (dpL a) (dpL b)
  | [], b => by simp [dpL]
  | x :: a, b => by rw [List.cons_append, dpL, dpL, dpL_app a b, Nat.max_assoc]
theorem dpL_take {l : List Sp} {k : Nat} {x : Sp} (h : l[k]? = some x) : dpL (l.take (k + 1)) = max (dpL (l.take k)) (dp1 x) := by
  rw [List.take_add_one, h, dpL_app]; simp [dpL]
theorem dpL_le {l : List Sp} {k : Nat} : dpL (l.take k) ≤ dpL l := by
  have := dpL_app (l.take k) (l.drop k)
  rw [List.take_append_drop] at this
  omega
theorem dp_get {l : List Sp} {k : Nat} {x : Sp} (h : l[k]? = some x) : dp1 x ≤ dpL l := by
  have h1 := dpL_take h
  have h2 := dpL_le (l := l) (k := k + 1)
  omega
mutual
theorem dp_sz1 : ∀ x : Sp, dp1 x ≤ sz1 x
  | ⟨_, _, _, _, kids⟩ => by have := dp_szL kids; simp only [dp1, sz1]; omega
/-- not deeper than there are -/
theorem dp_szL : ∀ l : List Sp, dpL l ≤ szL l
  | [] => Nat.le_refl _
  | x :: l => by have := dp_sz1 x; have := dp_szL l; simp only [dpL, szL]; omega
end
end Go.Bd
namespace Go.Bd
open Go.RowKit
section
variable {α : Type}
/-- what a value may read asf, in blocks of F -/
abbrev Rel (α : Type) := World → (Nat → Prop) → Value → α → Prop
/-- it stays where its blocks do -/
def Rel.Stays (R : Rel α) : Prop := ∀ (w w' : World) (F G S : Nat → Prop) (v : Value) (x : α), R w F v x → Chg w w' S → (∀ b, F b → G b) → (∀ b, F b → ¬ S b) → R w' G v x
theorem Rel.Stays.go {R : Rel α} (hR : R.Stays) {w w' : World} {F G S : Nat → Prop} {v : Value} {x : α} (h : R w F v x) (hc : Chg w w' S) (hk : ∀ b, F b → G b) (hS : ∀ b, F b → ¬ S b) : R w' G v x := hR w w' F G S v x h hc hk hS
theorem Rel.Stays.under {R : Rel α} (hR : R.Stays) {w w' : World} {F : Nat → Prop} {B : Nat} {v : Value} {x : α} (h : R w F v x) (hb : Below B w w') (hF : ∀ b, F b → b < B) : R w' F v x :=
  hR.go h (S := fun k => B ≤ k) ⟨hb.os, hb.tape, hb.output, hb.size, fun k _ hs => hb.block k (Nat.lt_of_not_le hs)⟩ (fun _ h => h) (fun b h hs => by have := hF b h; omega)
/-- the slice v reads asf a list, one cell each -/
def RowF (R : Rel α) (w : World) (F : Nat → Prop) (v : Value) (l : List α) : Prop :=
  ∃ (A : Option Addr) (c : Nat) (kvs : List Value), v = .slice A l.length c ∧ l.length ≤ c ∧ kvs.length = l.length ∧ (l ≠ [] → ∃ b off, A = some ⟨b, off, none⟩ ∧ F b ∧ ∀ (j : Nat) kv, kvs[j]? = some kv → w.cell? ⟨b, off + j, none⟩ = some kv) ∧
    ∀ (j : Nat) x kv, l[j]? = some x → kvs[j]? = some kv → R w F kv x
/-- .. in a row of its own, with a mark behind -/
def RowM (M : Rel α) (Q : World → (Nat → Prop) → Value → Prop) (w : World) (F : Nat → Prop) (v : Value) (l : List α) : Prop :=
  ∃ (g c : Nat) (kvs : List Value) (mk : Value), v = .slice (some ⟨g, 0, none⟩) l.length c ∧ l.length < c ∧ F g ∧ kvs.length = l.length ∧ (∀ (j : Nat) kv, kvs[j]? = some kv → w.cell? ⟨g, j, none⟩ = some kv) ∧ w.cell? ⟨g, l.length, none⟩ = some mk ∧ Q w F mk ∧
    ∀ (j : Nat) x kv, l[j]? = some x → kvs[j]? = some kv → M w F kv x
theorem RowF.stays {R : Rel α} (hR : R.Stays) : Rel.Stays (RowF R) := by
  rintro w w' F G S v l ⟨A, c, kvs, e, hc, hl, hA, hk⟩ hch hFG hFS
  refine ⟨A, c, kvs, e, hc, hl, fun hn => ?_, fun j x kv e1 e2 => hR.go (hk j x kv e1 e2) hch hFG hFS⟩
  obtain ⟨b, off, h1, h2, h3⟩ := hA hn
  exact ⟨b, off, h1, hFG b h2, fun j kv e => hch.cell (hFS b h2) (h3 j kv e)⟩
theorem RowM.stays {M : Rel α} {Q : World → (Nat → Prop) → Value → Prop} (hM : M.Stays) (hQ : ∀ {w w' : World} {F G S : Nat → Prop} {v : Value}, Q w F v → Chg w w' S → (∀ b, F b → G b) → (∀ b, F b → ¬ S b) → Q w' G v) : Rel.Stays (RowM M Q) := by
  rintro w w' F G S v l ⟨g, c, kvs, mk, e, hc, hF, hl, hA, hm, hq, hk⟩ hch hFG hFS
  exact ⟨g, c, kvs, mk, e, hc, hFG g hF, hl, fun j kv e => hch.cell (hFS g hF) (hA j kv e), hch.cell (hFS g hF) hm, hQ hq hch hFG hFS, fun j x kv e1 e2 => hM.go (hk j x kv e1 e2) hch hFG hFS⟩
theorem RowF.len {R : Rel α} {w : World} {F : Nat → Prop} {v : Value} {l : List α} (h : RowF R w F v l) : ∃ A c, v = .slice A l.length c ∧ l.length ≤ c := by
  obtain ⟨A, c, kvs, e, hc, _⟩ := h
  exact ⟨A, c, e, hc⟩
theorem RowF.at {R : Rel α} {w : World} {F : Nat → Prop} {A : Option Addr} {n c : Nat} {l : List α} (h : RowF R w F (.slice A n c) l) {j : Nat} {x : α} (hx : l[j]? = some x) : ∃ b off kv, A = some ⟨b, off, none⟩ ∧ F b ∧ R w F kv x ∧ w.cell? ⟨b, off + j, none⟩ = some kv := by
  obtain ⟨A', c', kvs, e, hc, hl, hA, hk⟩ := h
  injection e with e1 e2 e3
  subst e1
  have hj : j < l.length := (List.getElem?_eq_some_iff.1 hx).1
  obtain ⟨b, off, h1, h2, h3⟩ := hA (by intro h; rw [h] at hj; simp at hj)
  obtain ⟨kv, hkv⟩ : ∃ kv, kvs[j]? = some kv := ⟨_, List.getElem?_eq_getElem (by omega)⟩
  exact ⟨b, off, kv, h1, h2, hk j x kv hx hkv, h3 j kv hkv⟩
theorem RowM.form {M : Rel α} {Q : World → (Nat → Prop) → Value → Prop} {w : World} {F : Nat → Prop} {v : Value} {l : List α} (h : RowM M Q w F v l) : ∃ g c mk, v = .slice (some ⟨g, 0, none⟩) l.length c ∧ l.length < c ∧ F g ∧ w.cell? ⟨g, l.length, none⟩ = some mk ∧ Q w F mk ∧
    ∀ (j : Nat) x, l[j]? = some x → ∃ kv, M w F kv x ∧ w.cell? ⟨g, j, none⟩ = some kv := by
  obtain ⟨g, c, kvs, mk, e, hc, hF, hl, hA, hm, hq, hk⟩ := h
  refine ⟨g, c, mk, e, hc, hF, hm, hq, fun j x hx => ?_⟩
  have hj : j < l.length := (List.getElem?_eq_some_iff.1 hx).1
  obtain ⟨kv, hkv⟩ : ∃ kv, kvs[j]? = some kv := ⟨_, List.getElem?_eq_getElem (by omega)⟩
  exact ⟨kv, hk j x kv hx hkv, hA j kv hkv⟩
/-- a copy so far -/
structure Tw1 (M : Rel α) (t : TypeId) (w wr : World) (g cap k : Nat) (kvs : List Value) (l : List α) : Prop where
  hl : kvs.length = k
  ho : wr.ownsRow w.heap.size t 1 (.slice (some ⟨g, 0, none⟩) k cap) k kvs
  hk : ∀ (j : Nat) x kv, l[j]? = some x → kvs[j]? = some kv → M wr (fun b => w.heap.size ≤ b ∧ b < wr.heap.size ∧ b ≠ g) kv x
  hg : w.heap.size ≤ g ∧ g < wr.heap.size
  hb : Below w.heap.size w wr
theorem tw1_next {M : Rel α} (hM : M.Stays) {t : TypeId} {w wr w2 w3 : World} {g cap k g1 cap1 : Nat} {kvs : List Value} {l : List α} {x : α} {kv : Value} {o : Obj} (h : Tw1 M t w wr g cap k kvs l) (hx : l[k]? = some x) (hb2 : Below wr.heap.size wr w2)
    (ht2 : M w2 (fun b => wr.heap.size ≤ b ∧ b < w2.heap.size) kv x) (hown3 : w3.ownsRow w.heap.size t 1 (.slice (some ⟨g1, 0, none⟩) (k + 1) cap1) (k + 1) (kvs ++ [kv]))
    (hgrow : (w2.alloc o).grownBy w3 (some g)) (hat : (some g : Option Nat) = some g1 ∨ g1 = w2.heap.size + 1) (hlt3 : g1 < w3.heap.size) : Tw1 M t w w3 g1 cap1 (k + 1) (kvs ++ [kv]) l := by
  have hc : Chg w2 w3 (fun b => some b = some g) := ((Chg.refl w2 (fun b => some b = some g)).alloc o).trans (Chg.grown hgrow) (fun _ _ h => h)
  have hs2 := hb2.size
  have hs3 := hc.size
  obtain ⟨hg1, hg2⟩ := h.hg
  have hgg : g1 = g ∨ g1 = w2.heap.size + 1 := hat.imp (fun e => (Option.some.inj e).symm) id
  have hbb := h.hb.size
  refine ⟨by rw [List.length_append, h.hl]; rfl, hown3, fun j y ku e1 e2 => ?_, ⟨by omega, hlt3⟩, ?_⟩
  · by_cases hj : j < k
    · rw [List.getElem?_append_left (by rw [h.hl]; exact hj)] at e2
      exact hM.go (hM.under (h.hk j y ku e1 e2) hb2 (fun b hb => hb.2.1)) hc (fun b hb => ⟨hb.1, by omega, by omega⟩) (fun b hb e => hb.2.2 (Option.some.inj e))
    · have hjk : j = k := by
        have := (List.getElem?_eq_some_iff.1 e2).1
        rw [List.length_append, h.hl] at this
        simp at this; omega
      subst hjk
      rw [List.getElem?_append_right (by rw [h.hl]; exact Nat.le_refl _), h.hl, Nat.sub_self] at e2
      rw [hx] at e1
      simp only [List.getElem?_cons_zero, Option.some.injEq] at e1 e2
      subst e1 e2
      exact hM.go ht2 hc (fun b hb => ⟨by omega, by omega, by omega⟩) (fun b hb e => by have := Option.some.inj e; omega)
  · exact (h.hb.trans (hb2.mono hbb)).trans (hc.toBelow (by omega) (fun b e => by have := Option.some.inj e; omega))
/-- .. with the mark: the blocks of the mark's value lie behind those of the world in which it was made -/
theorem tw1_last {M : Rel α} (hM : M.Stays) {Q : World → (Nat → Prop) → Value → Prop} {t : TypeId} {w wr w2 w3 : World} {g cap k g1 cap1 : Nat} {kvs : List Value} {l : List α} {mk : Value} (h : Tw1 M t w wr g cap k kvs l) (hkl : l.length = k)
    (hc2 : Chg wr w2 (fun _ => False)) (hown3 : w3.ownsRow w.heap.size t 1 (.slice (some ⟨g1, 0, none⟩) (k + 1) cap1) (k + 1) (kvs ++ [mk]))
    (hgrow : w2.grownBy w3 (some g)) (hat : (some g : Option Nat) = some g1 ∨ g1 = w2.heap.size) (hlt3 : g1 < w3.heap.size)
    (hq : Q w3 (fun b => w.heap.size ≤ b ∧ b < w3.heap.size) mk) :
    RowM M Q w3 (fun b => w.heap.size ≤ b ∧ b < w3.heap.size) (.slice (some ⟨g1, 0, none⟩) l.length cap1) l ∧ Below w.heap.size w w3 := by
  have hc : Chg wr w3 (fun b => some b = some g) := (hc2.mono (fun _ _ h => h.elim)).trans (Chg.grown hgrow) (fun _ _ h => h)
  have hs3 := hc.size
  have hs2 := hc2.size
  obtain ⟨hg1, hg2⟩ := h.hg
  have hgg : g1 = g ∨ g1 = w2.heap.size := hat.imp (fun e => (Option.some.inj e).symm) id
  have hbb := h.hb.size
  subst hkl
  have hcap : l.length < cap1 := by
    rcases hown3.2 with ⟨h, _⟩ | ⟨g', cap', cur, hv, _, _, hc, _⟩
    · cases h
    · injection hv with e1 e2 e3; omega
  have hcell : ∀ (j : Nat) u, (kvs ++ [mk])[j]? = some u → w3.cell? ⟨g1, j, none⟩ = some u := fun j u hu => by
    have := hown3.cells (g := g1) rfl j u hu
    rwa [addr_add] at this
  refine ⟨⟨g1, cap1, kvs, mk, rfl, hcap, ⟨by omega, hlt3⟩, h.hl, fun j kv e => hcell j kv (by rw [List.getElem?_append_left (List.getElem?_eq_some_iff.1 e).1]; exact e), hcell _ _ (by rw [List.getElem?_append_right (by rw [h.hl]; exact Nat.le_refl _), h.hl, Nat.sub_self]; rfl), hq,
    fun j x kv e1 e2 => hM.go (h.hk j x kv e1 e2) hc (fun b hb => ⟨hb.1, by omega⟩) (fun b hb e => hb.2.2 (Option.some.inj e))⟩, h.hb.trans (hc.toBelow (by omega) (fun b e => by have := Option.some.inj e; omega))⟩
/-- how much such a list has -/
def szX (s : α → Nat) : List α → Nat
  | [] => 0
  | x :: l => 2 + s x + szX s l
theorem szX_app (s : α → Nat) : ∀ a b : List α, szX s (a ++ b) = szX s a + szX s b
  | [], b => by simp [szX]
  | x :: a, b => by rw [List.cons_append, szX, szX, szX_app s a b]; omega
theorem szX_take {s : α → Nat} {l : List α} {k : Nat} {x : α} (h : l[k]? = some x) : szX s (l.take (k + 1)) = szX s (l.take k) + (2 + s x) := by
  rw [List.take_add_one, h, szX_app]; simp [szX]
theorem szX_len (s : α → Nat) : ∀ l : List α, 2 * l.length ≤ szX s l
  | [] => Nat.zero_le _
  | x :: l => by have := szX_len s l; simp only [szX, List.length_cons]; omega
theorem szX_get {s : α → Nat} {l : List α} {k : Nat} {x : α} (h : l[k]? = some x) : szX s (l.take k) + 2 + s x + 2 * (l.length - (k + 1)) ≤ szX s l := by
  have h1 := szX_take (s := s) h
  have h2 := szX_app s (l.take (k + 1)) (l.drop (k + 1))
  rw [List.take_append_drop] at h2
  have h3 := szX_len s (l.drop (k + 1))
  rw [List.length_drop] at h3
  omega
end
theorem Marked.stays : Rel.Stays (α := List Sp) Marked := fun _ _ _ _ _ _ _ h hc hk hS => h.chg hc hk hS
theorem Forest.stays : Rel.Stays (α := List Sp) Forest := fun _ _ _ _ _ _ _ h hc hk hS => h.chg hc hk hS
/-- cells: each a row of spans -/
def CellsF : Rel (List (List Sp)) := RowF Forest
def RowsF : Rel (List (List (List Sp))) := RowF CellsF
def markC (w : World) (F : Nat → Prop) (v : Value) : Prop := Forest w F v [txt spareB]
def markR (_ : World) (_ : Nat → Prop) (v : Value) : Prop := ∃ A c, v = .slice A 9 c
def CellsM : Rel (List (List Sp)) := RowM Marked markC
def RowsM : Rel (List (List (List Sp))) := RowM CellsM markR
theorem CellsF.stays : Rel.Stays CellsF := RowF.stays (R := Forest) Forest.stays
theorem RowsF.stays : Rel.Stays RowsF := RowF.stays (R := CellsF) CellsF.stays
theorem CellsM.stays : Rel.Stays CellsM := RowM.stays (M := Marked) Marked.stays (fun {_ _ _ _ _ _} h hc hk hS => Forest.chg h hc hk hS)
theorem RowsM.stays : Rel.Stays RowsM := RowM.stays (M := CellsM) CellsM.stays (fun {_ _ _ _ _ _} h _ _ _ => h)
end Go.Bd
namespace Go.Proofs.YtcjmfjccjhdgjaaGreatDoor
open Go.RowKit Go.Bd
theorem blank_fun : (fun c => ([32, 9] : Bs).contains c) = Go.Bd.blank := by
  funext c
  rw [Bool.eq_iff_iff, blank_iff]
  simp only [List.contains_eq_mem, List.mem_cons, List.not_mem_nil, or_false, decide_eq_true_eq, ← UInt8.toNat_inj]
  simp; omega
theorem strTrimL_any (s : ByteArray) (w : World) (hs : s.size ≤ 9223372036854775807) :
    Calls Tryz.prog 37 #[.string s, .string ⟨#[32, 9]⟩] w fun e w' => e = .returned (strV (dropL s.data.toList)) ∧ Below w.heap.size w w' := by
  refine (Any.strings_TrimLeft_laid Tryz.lays161 set_info s ⟨#[32, 9]⟩ w (by decide) (ascii_of_all (by decide))).mono ?_
  rintro e w' ⟨he, hb⟩
  refine ⟨?_, hb⟩
  rw [he]
  exact congrArg (fun l : Bs => Ending.returned (strV l)) (by rw [Lib.trimLeftS, dropL]; show List.dropWhile (fun c => ([32, 9] : Bs).contains c) _ = _; rw [blank_fun])
theorem strTrimR_any (s : ByteArray) (w : World) (hs : s.size ≤ 9223372036854775807) :
    Calls Tryz.prog 55 #[.string s, .string ⟨#[32, 9]⟩] w fun e w' => e = .returned (strV (dropR s.data.toList)) ∧ Below w.heap.size w w' := by
  refine (Any.strings_TrimRight_laid Tryz.lays162 set_info s ⟨#[32, 9]⟩ w hs (by decide) (ascii_of_all (by decide))).mono ?_
  rintro e w' ⟨he, hb⟩
  refine ⟨?_, hb⟩
  rw [he]
  exact congrArg (fun l : Bs => Ending.returned (strV l)) (by rw [Lib.trimRightS, dropR]; show (List.dropWhile (fun c => ([32, 9] : Bs).contains c) _).reverse = _; rw [blank_fun])
end Go.Proofs.YtcjmfjccjhdgjaaGreatDoor
namespace Go.Proofs.YtcjmfjccjhdgjaaGreatDoor
open Go.RowKit Go.Bd
set_option maxRecDepth 100000 in
set_option maxHeartbeats 400000 in
theorem indexRune_valid2 (g : ByteArray) (r : Int) (w : World) (hg : ∀ b ∈ g.data.toList, b.toNat < 128) (h4 : (Utf8.encode r).size ≤ g.size) (h5 : g.size ≤ 200) (h1 : 128 ≤ r) (h2 : ¬ r = 65533) (hv : Utf8.valid r = true) :
    Calls Tryz.prog 57 #[.string g, .int .i32 r] w fun e w' => e = .returned (.int .i64 (-1)) ∧ Below w.heap.size w w' := by
  have HG := Lib.hid hg
  clear hg
  obtain ⟨f1, f2, f3⟩ := encode_facts r hv h1
  have hv' : validRune r = true := by rw [← validRune_eq]; exact hv
  have Hv := Lib.hid hv
  clear hv
  have hne : (r == 65533) = false := by simpa using h2
  generalize he : Utf8.encode r = e at f1 f2 f3 h4
  have hce := fun (w : World) => run_convert_int_string (P := Tryz.prog) w 21 9 .i32 r (by rw [Tryz.underlying21]; rfl) Tryz.underlying9
  rw [he] at hce
  have He := Lib.hid he
  clear he
  obtain ⟨n, hn⟩ : ∃ n, e.size = n + 1 := ⟨e.size - 1, by omega⟩
  have hng : n < g.size := by omega
  have hne' : n < e.size := by omega
  have f4 : 128 ≤ (e[n]'hne').toNat := by
    have h := f3 (by omega)
    have e1 : e.size - 1 = n := by omega
    simpa only [e1] using h
  clear f3
  have hx := ascii_at HG.out hng
  have hneq : ((g[n]'hng).toNat : Int) ≠ (e[n]'hne').toNat := by omega
  have hb : (((g[n]'hng).toNat : Int) != (e[n]'hne').toNat) = true := by simpa using hneq
  have hb' : (((g[n]'hng).toNat : Int) == (e[n]'hne').toNat) = false := by simpa using hneq
  clear hneq
  go_enter Tryz.func57, Tryz.ntmps57
  go_wp2_with (go_at_call 86; refine (Tryz.utf8_ValidRune _ _).mono ?_; rintro e w' ⟨rfl, hw⟩; subst hw)
  · go_ret
    exact ⟨rfl, Below.refl _ _⟩
  · go_step3
    go_wp2
    refine wp_loop_rounds 1 ?_
    rw [rounds_succ]
    go_wp2
    go_step3
    go_wp2
    have Hn := Lib.hid hn
    clear hn
    go_quiet (fail)
    go_wp2
    have hbq : Below w'.heap.size w' (w'.drewN nq) := Go.below_drewN (Below.refl _ _) _
    generalize w'.drewN nq = w2 at hbq ⊢
    have q1 : IntKind.i64.wrap ((n : Int) + 1) = (n : Int) + 1 := IntWalk.i64_in _ (by omega)
    have q2 : 0 ≤ (n : Int) + 1 := by omega
    have q3 : ((n : Int) + 1).toNat = n + 1 := by omega
    have q4 : (n : Int) + 1 ≤ (g.size : Int) := by omega
    have e41 : Lib.indexByte (List.take (g.size - (n + 1)) (List.drop (n + 1) g.data.toList)) (e[n]'hne') < 0 := by
      rw [indexByte_high _ (fun b hb => HG.out b (List.mem_of_mem_drop (List.mem_of_mem_take hb))) _ f4]; decide
    go_quiet ((go_at_call 85; exact Calls.quiet_of_same (Tryz.strings_IndexByte _ _ _)))
    clear q1 q2 q3 q4
    go_wp2
    rw [Exit.noGoto_ret]
    simp only [Exit.inBlock, Exit.then]
    rw [Exit.noGoto_ret]
    simp only [Exit.inBlock]
    go_ret
    exact ⟨rfl, Go.below_drewN hbq _⟩
set_option maxRecDepth 100000 in
set_option maxHeartbeats 400000 in
theorem indexRune_valid3 (g : ByteArray) (r : Int) (w : World) (h4 : g.size < (Utf8.encode r).size) (h3 : 2 ≤ g.size) (h1 : 128 ≤ r) (h2 : ¬ r = 65533) (hv : Utf8.valid r = true) :
    Calls Tryz.prog 57 #[.string g, .int .i32 r] w fun e w' => e = .returned (.int .i64 (-1)) ∧ Below w.heap.size w w' := by
  obtain ⟨f1, f2, f3⟩ := encode_facts r hv h1
  clear f3
  have hv' : validRune r = true := by rw [← validRune_eq]; exact hv
  have Hv := Lib.hid hv
  clear hv
  have hne : (r == 65533) = false := by simpa using h2
  generalize he : Utf8.encode r = e at f1 f2 h4
  have hce := fun (w : World) => run_convert_int_string (P := Tryz.prog) w 21 9 .i32 r (by rw [Tryz.underlying21]; rfl) Tryz.underlying9
  rw [he] at hce
  clear he
  obtain ⟨n, hn⟩ : ∃ n, e.size = n + 1 := ⟨e.size - 1, by omega⟩
  have hng : ¬ n < g.size := by omega
  go_enter Tryz.func57, Tryz.ntmps57
  go_wp2_with (go_at_call 86; refine (Tryz.utf8_ValidRune _ _).mono ?_; rintro e w' ⟨rfl, hw⟩; subst hw)
  · go_ret
    exact ⟨rfl, Below.refl _ _⟩
  · go_step3
    go_wp2
    refine wp_loop_rounds 1 ?_
    rw [rounds_succ]
    go_wp2
    rw [Exit.noGoto_ret]
    simp only [Exit.inBlock, Exit.then]
    (try rw [Exit.noGoto_ret])
    (try simp only [Exit.inBlock])
    go_ret
    exact ⟨rfl, Below.refl _ _⟩
/-- whatever the sign beyond ASCII -/
theorem indexRune_high2 (g : ByteArray) (r : Int) (w : World) (hg : ∀ b ∈ g.data.toList, b.toNat < 128) (h4 : 2 ≤ g.size) (h5 : g.size ≤ 200) (h1 : 128 ≤ r) :
    Calls Tryz.prog 57 #[.string g, .int .i32 r] w fun e w' => e = .returned (.int .i64 (-1)) ∧ Below w.heap.size w w' := by
  by_cases h2 : r = 65533
  · subst h2; exact indexRune_bad g w hg
  · by_cases hv : Utf8.valid r = true
    · rcases Nat.lt_or_ge g.size (Utf8.encode r).size with h | h
      · exact indexRune_valid3 g r w h h4 h1 h2 hv
      · exact indexRune_valid2 g r w hg h h5 h1 h2 hv
    · exact indexRune_none g r w h1 h2 (by rw [validRune_eq] at hv; simpa using hv)
theorem indexAny_here {chars : Bs} : ∀ {l : Bs} {p : Nat} {b : UInt8}, l[p]? = some b → chars.contains b = true → (∀ j, j < p → ∀ c, l[j]? = some c → chars.contains c = false) → Lib.indexAny l chars = (p : Int)
  | [], p, b, h, _, _ => by simp at h
  | c :: l, 0, b, h, hb, _ => by
    obtain rfl : c = b := by simpa using h
    rw [Lib.indexAny, if_pos hb]; rfl
  | c :: l, p + 1, b, h, hb, hn => by
    have h0 := hn 0 (by omega) c rfl
    have ih := indexAny_here (l := l) (p := p) (by simpa using h) hb (fun j hj d hd => hn (j + 1) (by omega) d (by simpa using hd))
    rw [Lib.indexAny, h0, ih]
    have e : ((p : Int) == -1) = false := beq_eq_false_iff_ne.2 (by omega)
    simp [e]
theorem indexAny_no {chars : Bs} : ∀ {l : Bs}, (∀ c ∈ l, chars.contains c = false) → Lib.indexAny l chars = -1
  | [], _ => rfl
  | c :: l, h => by
    have ih := indexAny_no (l := l) (fun d hd => h d (List.mem_cons_of_mem _ hd))
    rw [Lib.indexAny, h c (List.mem_cons_self ..), ih]
    rfl
theorem NoSign.at_end {s : ByteArray} {g : Bs} (h : NoSign s g s.size) : Lib.indexAny s.data.toList g = -1 :=
  indexAny_no fun c hc => by
    obtain ⟨j, hj, rfl⟩ := List.mem_iff_getElem.1 hc
    exact h.2 j (by simpa using hj) (by simpa using hj)
theorem NoSign.at_hit {s : ByteArray} {g : Bs} {p : Nat} (h : NoSign s g p) (hp : p < s.size) (hc : g.contains s[p] = true) : Lib.indexAny s.data.toList g = (p : Int) := by
  have hl : p < s.data.toList.length := by simpa using hp
  refine indexAny_here (b := s[p]) (List.getElem?_eq_getElem hl) hc (fun j hj c hjc => ?_)
  obtain ⟨hjl, rfl⟩ := List.getElem?_eq_some_iff.1 hjc
  exact h.2 j (by simpa using hjl) hj
set_option maxHeartbeats 400000 in
theorem indexAnyX_short (s g : ByteArray) (w : World) (hg : ∀ b ∈ g.data.toList, b.toNat < 128) (h4 : 2 ≤ g.size) (h5 : g.size ≤ 200) (h8 : s.size ≤ 8) :
    Calls Tryz.prog 36 #[.string s, .string g] w fun e w' => e = .returned (.int .i64 (Lib.indexAny s.data.toList g.data.toList)) ∧ Below w.heap.size w w' := by
  have HG := Lib.hid hg
  clear hg
  have hemp : g.toList.isEmpty = false := by
    rw [ByteArray.toList_eq]
    cases h : g.data.toList with
    | nil => have := size_list g; rw [h, List.length_nil] at this; omega
    | cons _ _ => rfl
  have hn1 : ((g.size : Int) == 1) = false := beq_eq_false_iff_ne.2 (by omega)
  have h8z : decide ((8 : Int) < (s.size : Int)) = false := decide_eq_false (by omega)
  go_enter Tryz.func36, Tryz.ntmps36
  go_wp2_with (go_at_call 58; refine (Tryz.strings_shouldUseASCIISet _ _).mono ?_; rintro e w' ⟨rfl, hw⟩; rw [hw, h8z])
  go_loopg [9, 10] s.size (fun n _ _ wx => ∃ p : Nat, p + n = s.size ∧ wx.heap[w.heap.size]? = some (.stringIter s p) ∧ Hid (NoSign s g.data.toList p) ∧ Below w.heap.size w wx)
  case atStart => exact ⟨0, by omega, World.iter_heap _ _ _, ⟨by omega, fun _ _ h => absurd h (by omega)⟩, (Below.refl _ _).alloc (Nat.le_refl _) _⟩
  case round =>
    obtain ⟨p, hpn, hit, HN, hb⟩ := hrel
    cases gk with
    | zero =>
      obtain rfl : p = s.size := by omega
      have hnx := fun ty => Lib.run_next_end_at (P := Tryz.prog) wr w.heap.size s s.size ty hit (by omega)
      go_wp2
      go_ret
      exact ⟨by rw [HN.out.at_end]; rfl, hb⟩
    | succ n =>
      have hp : p < s.size := by omega
      by_cases hx : (s[p]'hp).toNat < 128
      · have hnx := fun ty => Lib.run_next_ascii_at (P := Tryz.prog) wr w.heap.size s p ty hit hp hx
        have hcon := Lib.contains_iff_indexByte g.data.toList (s[p]'hp)
        have hback : (((s[p]'hp).toNat : Int)).toNat.toUInt8 = s[p]'hp := by simp
        cases hin : g.data.toList.contains (s[p]'hp)
        · rw [hin] at hcon
          have hlt : Lib.indexByte g.data.toList (s[p]'hp) < 0 := by have := of_decide_eq_false hcon.symm; omega
          clear hcon
          have HI := Lib.hid hin
          clear hin
          go_wp2_with (go_at_call 57; refine (Tryz.strings_IndexRune_ascii _ _ _ (by omega) (by omega)).mono ?_; rintro e w' ⟨rfl, hw⟩; rw [hw, hback])
          go_roundg n
          case measure => omega
          case rel => exact ⟨p + 1, by omega, Lib.iterAt_heap _ _ _ _ _ hit, HN.out.step hp HI.out, Lib.below_iterAt hb (Nat.le_refl _) _ _⟩
        · rw [hin] at hcon
          have hge : 0 ≤ Lib.indexByte g.data.toList (s[p]'hp) := of_decide_eq_true hcon.symm
          clear hcon
          have HI := Lib.hid hin
          clear hin
          go_wp2_with (go_at_call 57; refine (Tryz.strings_IndexRune_ascii _ _ _ (by omega) (by omega)).mono ?_; rintro e w' ⟨rfl, hw⟩; rw [hw, hback])
          go_ret
          exact ⟨by rw [HN.out.at_hit hp HI.out]; simp, Lib.below_iterAt hb (Nat.le_refl _) _ _⟩
      · obtain ⟨d1, d2⟩ := decode_high s p hp (by omega)
        obtain ⟨d3, d4⟩ := decode_bytes s p hp (by omega)
        have D4 := Lib.hid d4
        clear d4
        have hnx := fun ty => Lib.run_next_any_at (P := Tryz.prog) wr w.heap.size s p ty hit hp
        generalize hc : (Utf8.decode s p).1 = c at d1 hnx
        generalize hd : (Utf8.decode s p).2 = d at d2 d3 D4 hnx
        clear hc hd
        go_wp2_with (go_at_call 57; refine (indexRune_high2 _ _ _ HG.out h4 h5 (by omega)).mono ?_; rintro e w2 ⟨rfl, hb2⟩)
        go_roundg (s.size - (p + d))
        case measure => omega
        case rel => exact ⟨p + d, by omega, (hb2.block _ (by rw [Lib.iterAt_size]; exact (Array.getElem?_eq_some_iff.1 hit).1)).trans (Lib.iterAt_heap _ _ _ _ _ hit), HN.out.jump d3 D4.out HG.out, (Lib.below_iterAt hb (Nat.le_refl _) _ _).trans (hb2.mono (by rw [Lib.iterAt_size]; exact hb.size))⟩
/-- whatever the text -/
theorem indexAnyX_any (s g : ByteArray) (w : World) (hg : ∀ b ∈ g.data.toList, b.toNat < 128) (h4 : 2 ≤ g.size) (h5 : g.size ≤ 200) (hs : s.size < 4294967281) :
    Calls Tryz.prog 36 #[.string s, .string g] w fun e w' => e = .returned (.int .i64 (Lib.indexAny s.data.toList g.data.toList)) ∧ Below w.heap.size w w' := by
  rcases Nat.lt_or_ge 8 s.size with h | h
  · refine (Tryz.strings_IndexAny_long (fun w => by kernel_rfl) s g w h4 h hs (by omega) (fun j b hb => hg b (List.mem_of_getElem? hb))).mono ?_
    rintro e w' ⟨rfl, rfl⟩
    exact ⟨rfl, ((Below.refl _ w).alloc (Nat.le_refl _) _).alloc (by simp) _⟩
  · exact indexAnyX_short s g w hg h4 h5 h
end Go.Proofs.YtcjmfjccjhdgjaaGreatDoor
namespace Go.Bd
/-- where the last of these signs stands -/
def lastAny : Bs → Bs → Int
  | [], _ => -1
  | b :: l, g => if 0 ≤ lastAny l g then lastAny l g + 1 else if g.contains b then 0 else -1
theorem lastAny_no {g : Bs} : ∀ {l : Bs}, (∀ c ∈ l, g.contains c = false) → lastAny l g = -1
  | [], _ => rfl
  | c :: l, h => by
    have ih := lastAny_no (l := l) (fun d hd => h d (List.mem_cons_of_mem _ hd))
    rw [lastAny, ih, h c (List.mem_cons_self ..)]
    rfl
theorem lastAny_here {g : Bs} : ∀ {l : Bs} {p : Nat} {b : UInt8}, l[p]? = some b → g.contains b = true → (∀ j, p < j → ∀ c, l[j]? = some c → g.contains c = false) → lastAny l g = (p : Int)
  | [], p, b, h, _, _ => by simp at h
  | c :: l, 0, b, h, hb, hn => by
    obtain rfl : c = b := by simpa using h
    have ih := lastAny_no (g := g) (l := l) (fun d hd => by
      obtain ⟨j, hj, rfl⟩ := List.mem_iff_getElem.1 hd
      exact hn (j + 1) (by omega) _ (by rw [List.getElem?_cons_succ, List.getElem?_eq_getElem hj]))
    rw [lastAny, ih, hb]
    rfl
  | c :: l, p + 1, b, h, hb, hn => by
    have ih := lastAny_here (l := l) (p := p) (by simpa using h) hb (fun j hj d hd => hn (j + 1) (by omega) d (by simpa using hd))
    rw [lastAny, ih, if_pos (by omega)]
    rfl
/-- no sign of g from place p on -/
def NoFrom (s : ByteArray) (g : Bs) (p : Nat) : Prop := p ≤ s.size ∧ ∀ j (h : j < s.size), p ≤ j → g.contains s[j] = false
theorem NoFrom.at_end {s : ByteArray} {g : Bs} (h : NoFrom s g 0) : lastAny s.data.toList g = -1 :=
  lastAny_no fun c hc => by
    obtain ⟨j, hj, rfl⟩ := List.mem_iff_getElem.1 hc
    exact h.2 j (by simpa using hj) (Nat.zero_le _)
theorem NoFrom.at_hit {s : ByteArray} {g : Bs} {p : Nat} (h : NoFrom s g (p + 1)) (hp : p < s.size) (hc : g.contains s[p] = true) : lastAny s.data.toList g = (p : Int) := by
  have hl : p < s.data.toList.length := by simpa using hp
  refine lastAny_here (b := s[p]) (List.getElem?_eq_getElem hl) hc (fun j hj c hjc => ?_)
  obtain ⟨hjl, rfl⟩ := List.getElem?_eq_some_iff.1 hjc
  exact h.2 j (by simpa using hjl) hj
theorem NoFrom.back {s : ByteArray} {g : Bs} {p : Nat} (h : NoFrom s g (p + 1)) (hp : p < s.size) (hc : g.contains s[p] = false) : NoFrom s g p := by
  refine ⟨by omega, fun j hj hjp => ?_⟩
  by_cases e : j = p
  · subst e; exact hc
  · exact h.2 j hj (by omega)
theorem NoFrom.jump {s : ByteArray} {g : Bs} {p d : Nat} (h : NoFrom s g (p + d)) (h1 : ∀ j (hj : p + j < s.size), j < d → 128 ≤ (s[p + j]'hj).toNat) (hg : ∀ b ∈ g, b.toNat < 128) : NoFrom s g p := by
  refine ⟨by have := h.1; omega, fun j hj hjp => ?_⟩
  by_cases e : p + d ≤ j
  · exact h.2 j hj e
  · rw [Bool.eq_false_iff]
    intro hc
    have h2 := hg _ (by simpa using hc)
    obtain ⟨k, rfl⟩ : ∃ k, j = p + k := ⟨j - p, by omega⟩
    have := h1 k hj (by omega)
    omega
end Go.Bd
namespace Go.Proofs.YtcjmfjccjhdgjaaGreatDoor
open Go.RowKit Go.Bd
set_option maxRecDepth 100000 in
set_option maxHeartbeats 1000000 in
theorem lastIndexAny_one (s g : ByteArray) (w : World) (hg : ∀ b ∈ g.data.toList, b.toNat < 128) (h4 : 2 ≤ g.size) (h5 : g.size ≤ 200) (h1 : s.size = 1) :
    Calls Tryz.prog 53 #[.string s, .string g] w fun e w' => e = .returned (.int .i64 (lastAny s.data.toList g.data.toList)) ∧ Below w.heap.size w w' := by
  have HG := Lib.hid hg
  clear hg
  have hemp : g.toList.isEmpty = false := by
    rw [ByteArray.toList_eq]
    cases h : g.data.toList with
    | nil => have := size_list g; rw [h, List.length_nil] at this; omega
    | cons _ _ => rfl
  have hne : (g.toList == [] : Bool) = false := by
    rw [ByteArray.toList_eq]
    cases h : g.data.toList with
    | nil => have := size_list g; rw [h, List.length_nil] at this; omega
    | cons _ _ => rfl
  have hp : 0 < s.size := by omega
  have hN1 : NoFrom s g.data.toList (0 + 1) := ⟨by omega, fun j hj h => by omega⟩
  have h255 : (s[0]'hp).toNat < 256 := (s[0]'hp).toNat_lt
  have hw32 : wrap32 ((s[0]'hp).toNat : Int) = ((s[0]'hp).toNat : Int) := IntWalk.wrap32_in _ (by omega)
  by_cases hx : (s[0]'hp).toNat < 128
  · have hcon := Lib.contains_iff_indexByte g.data.toList (s[0]'hp)
    have hback : (((s[0]'hp).toNat : Int)).toNat.toUInt8 = s[0]'hp := by simp
    cases hin : g.data.toList.contains (s[0]'hp)
    · rw [hin] at hcon
      have hlt : Lib.indexByte g.data.toList (s[0]'hp) < 0 := by have := of_decide_eq_false hcon.symm; omega
      have hres := (hN1.back hp hin).at_end
      have HR := Lib.hid hres
      clear hcon hin hN1 hres
      go_enter Tryz.func53, Tryz.ntmps53
      go_wp2_with (go_at_call 57; refine (Tryz.strings_IndexRune_ascii _ _ _ (by omega) (by omega)).mono ?_; rintro e w' ⟨rfl, hw⟩; rw [hw, hback])
      go_ret
      exact ⟨by rw [HR.out]; rfl, Below.refl _ _⟩
    · rw [hin] at hcon
      have hge : 0 ≤ Lib.indexByte g.data.toList (s[0]'hp) := of_decide_eq_true hcon.symm
      have hres := hN1.at_hit hp hin
      have HR := Lib.hid hres
      clear hcon hin hN1 hres
      go_enter Tryz.func53, Tryz.ntmps53
      go_wp2_with (go_at_call 57; refine (Tryz.strings_IndexRune_ascii _ _ _ (by omega) (by omega)).mono ?_; rintro e w' ⟨rfl, hw⟩; rw [hw, hback])
      go_ret
      exact ⟨by rw [HR.out]; rfl, Below.refl _ _⟩
  · have hin : g.data.toList.contains (s[0]'hp) = false := by
      rw [Bool.eq_false_iff]
      intro hc
      have := HG.out _ (by simpa using hc)
      omega
    have hres := (hN1.back hp hin).at_end
    have HR := Lib.hid hres
    clear hin hN1 hres
    go_enter Tryz.func53, Tryz.ntmps53
    have hB := indexRune_bad g w HG.out
    go_wp2_with (go_at_call 57; refine hB.mono ?_; rintro e w2 ⟨rfl, hb2⟩)
    go_ret
    exact ⟨by rw [HR.out]; rfl, hb2⟩
set_option maxRecDepth 100000 in
set_option maxHeartbeats 2000000 in
theorem lastIndexAny_long (s g : ByteArray) (w : World) (hg : ∀ b ∈ g.data.toList, b.toNat < 128) (h4 : 2 ≤ g.size) (h5 : g.size ≤ 200) (h8 : 8 < s.size) (hs : s.size < 4294967281) :
    Calls Tryz.prog 53 #[.string s, .string g] w fun e w' => e = .returned (.int .i64 (lastAny s.data.toList g.data.toList)) ∧ Below w.heap.size w w' := by
  have hM := Tryz.strings_makeASCIISet (fun w => by kernel_rfl) g w (by omega) (fun j b hb => hg b (List.mem_of_getElem? hb))
  have HG := Lib.hid hg
  clear hg
  have hemp : g.toList.isEmpty = false := by
    rw [ByteArray.toList_eq]
    cases h : g.data.toList with
    | nil => have := size_list g; rw [h, List.length_nil] at this; omega
    | cons _ _ => rfl
  have hne : (g.toList == [] : Bool) = false := by
    rw [ByteArray.toList_eq]
    cases h : g.data.toList with
    | nil => have := size_list g; rw [h, List.length_nil] at this; omega
    | cons _ _ => rfl
  have hn1 : ((g.size : Int) == 1) = false := beq_eq_false_iff_ne.2 (by omega)
  have hs1 : ((s.size : Int) == 1) = false := beq_eq_false_iff_ne.2 (by omega)
  have h8z : decide ((8 : Int) < (s.size : Int)) = true := decide_eq_true (by omega)
  have hi116 : (Tryz.prog.info? 99).map (·.size) = some 256 := by kernel_rfl
  have hsc : (storeCells ⟨w.heap.size + 1, 0, none⟩ (Lib.setCells g.data.toList).toList 0).run Tryz.prog ((w.alloc (.cells (Lib.setCells g.data.toList) 99)).alloc (.cells (Array.replicate 256 (.bool false)) 99)) = .ok () ((w.alloc (.cells (Lib.setCells g.data.toList) 99)).alloc (.cells (Lib.setCells g.data.toList) 99)) := by
    have := run_storeCells_new (P := Tryz.prog) (w.alloc (.cells (Lib.setCells g.data.toList) 99)) 99 (Array.replicate 256 (.bool false)) (Lib.setCells g.data.toList) (by rw [Lib.setCells_size]; exact hi116) (by rw [Lib.setCells_size, Array.size_replicate]) (Lib.setCells_one _)
    simpa using this
  have hsz := Lib.setCells_size g.data.toList
  have hcellAt : ∀ x : UInt8, ((w.alloc (.cells (Lib.setCells g.data.toList) 99)).alloc (.cells (Lib.setCells g.data.toList) 99)).cell? ⟨w.heap.size + 1, x.toNat, none⟩ = some (.bool (g.data.toList.contains x)) := fun x => by
    rw [World.cell?_alloc_at _ _ _ _ (by simp), Lib.setCells_at]
  have HC := Lib.hid hcellAt
  clear hcellAt
  go_enter Tryz.func53, Tryz.ntmps53
  go_wp2_with (first
    | (go_at_call 58; refine (Tryz.strings_shouldUseASCIISet _ _).mono ?_; rintro e w' ⟨rfl, hw⟩; rw [hw, h8z])
    | (go_at_call 48; refine hM.mono ?_; rintro e w' ⟨rfl, hw⟩; rw [hw]))
  have hz116 : ∀ w, (zeroValue 99).run Tryz.prog w = .ok (.agg (Array.replicate 256 (.bool false))) w := fun w => by kernel_rfl
  have hzc : Tryz.zeroCells99 = Array.replicate 256 (.bool false) := by kernel_rfl
  simp only [hz116, Result.andThen, ↓reduceIte, hzc, hsc]
  rw [Oper.upon_skip]
  go_wp2
  clear hM hsc
  go_loopg [8] s.size (fun n s8 wx => ∃ i : Nat, i = n ∧ i ≤ s.size ∧ s8 = .int .i64 ((i : Int) - 1) ∧ wx = ((w.alloc (.cells (Lib.setCells g.data.toList) 99)).alloc (.cells (Lib.setCells g.data.toList) 99)) ∧ Hid (NoFrom s g.data.toList i))
  case atStart => exact ⟨s.size, rfl, Nat.le_refl _, by simp, rfl, ⟨Nat.le_refl _, fun j hj h => by omega⟩⟩
  case round =>
    obtain ⟨i, hin, his, rfl, rfl, HN⟩ := hrel
    cases gk with
    | zero =>
      obtain rfl : i = 0 := hin
      go_wp2
      go_ret
      exact ⟨by rw [HN.out.at_end]; rfl, ((Below.refl _ w).alloc (Nat.le_refl _) _).alloc (by simp) _⟩
    | succ n =>
      obtain rfl : i = n + 1 := hin
      have hi : n < s.size := by omega
      have hiz : ((n + 1 : Nat) : Int) - 1 = (n : Int) := by omega
      simp only [hiz]
      obtain ⟨x, hx⟩ : ∃ x : UInt8, s[n]'hi = x := ⟨_, rfl⟩
      have Hx := Lib.hid hx
      have hcx := HC.out x
      cases hin : g.data.toList.contains x <;> rw [hin] at hcx
      · have hni : g.data.toList.contains (s[n]'hi) = false := by rw [hx]; exact hin
        have HB := Lib.hid (HN.out.back hi hni)
        clear hin hni
        go_wp2_with (go_at_call 59; refine (Tryz.asciiSet_contains _ x _ _ hcx).mono ?_; rintro e w' ⟨rfl, hw⟩; rw [hw])
        go_roundg n
        case measure => omega
        case rel => exact ⟨n, rfl, by omega, by go_num, rfl, HB.out⟩
      · have hni : g.data.toList.contains (s[n]'hi) = true := by rw [hx]; exact hin
        have HB := Lib.hid (HN.out.at_hit hi hni)
        clear hin hni
        go_wp2_with (go_at_call 59; refine (Tryz.asciiSet_contains _ x _ _ hcx).mono ?_; rintro e w' ⟨rfl, hw⟩; rw [hw])
        go_ret
        exact ⟨by rw [HB.out]; rfl, ((Below.refl _ w).alloc (Nat.le_refl _) _).alloc (by simp) _⟩
end Go.Proofs.YtcjmfjccjhdgjaaGreatDoor
namespace Go.Proofs.YtcjmfjccjhdgjaaGreatDoor
open Go.RowKit Go.Bd
theorem get_cong (s : ByteArray) {i j : Nat} (h : i = j) (hi : i < s.size) : s[i]'hi = s[j]'(h ▸ hi) := by subst h; rfl
theorem ext_get (s : ByteArray) (a j : Nat) (h : a + j < s.size) (hj : j < (s.extract a s.size).size) : (s.extract a s.size)[j]'hj = s[a + j]'h := by
  rw [ByteArray.getElem_extract]
set_option maxHeartbeats 1000000 in
/-- what is read from a text's end, where its last byte is beyond ASCII -/
theorem last_high (s : ByteArray) (h0 : 0 < s.size) (hhi : 128 ≤ (s[s.size - 1]'(by omega)).toNat) :
    128 ≤ (Lib.decodeLastL s.data.toList).1 ∧ 1 ≤ (Lib.decodeLastL s.data.toList).2 ∧ (Lib.decodeLastL s.data.toList).2 ≤ s.size ∧ ∀ j (hj : (s.size - (Lib.decodeLastL s.data.toList).2) + j < s.size), j < (Lib.decodeLastL s.data.toList).2 → 128 ≤ (s[(s.size - (Lib.decodeLastL s.data.toList).2) + j]'hj).toNat := by
  have hne : s.data.toList ≠ [] := fun e => by
    have := size_list s
    rw [e, List.length_nil] at this
    omega
  have hlt := Lib.lastStart_lt _ hne
  rw [← size_list] at hlt
  have hg : (s.get! (s.size - 1)).toNat = (s[s.size - 1]'(by omega)).toNat := by
    have : s.get! (s.size - 1) = s[s.size - 1]'(by omega) := by
      have hk : s.size - 1 < s.size := by omega
      simp [ByteArray.get!, getElem!_pos, hk]; rfl
    rw [this]
  rw [Lib.decodeLastL_eq s h0 (by omega)]
  generalize hst : Lib.lastStart s.data.toList = st at hlt
  have hts : (s.extract st s.size).size = s.size - st := by rw [ByteArray.size_extract]; omega
  have hgo : Lib.decodeGo (s.extract st s.size) = Utf8.decode (s.extract st s.size) 0 := by unfold Lib.decodeGo; rw [if_neg (by omega)]
  have ht0 : 0 < (s.extract st s.size).size := by omega
  unfold Lib.lastOf
  rw [hgo]
  by_cases hc : st + (Utf8.decode (s.extract st s.size) 0).2 = s.size
  · rw [if_pos hc]
    by_cases hx : ((s.extract st s.size)[0]'ht0).toNat < 128
    · exfalso
      have hd : (Utf8.decode (s.extract st s.size) 0).2 = 1 := by simp only [Utf8.decode, get_at _ 0 ht0, hx, if_true]
      rw [hd] at hc
      rw [ext_get s st 0 (by omega)] at hx
      have e := get_cong s (show st + 0 = s.size - 1 by omega) (by omega)
      rw [e] at hx
      omega
    · obtain ⟨d1, d2⟩ := decode_high (s.extract st s.size) 0 ht0 (by omega)
      obtain ⟨d3, d4⟩ := decode_bytes (s.extract st s.size) 0 ht0 (by omega)
      refine ⟨d1, d2, by omega, fun j hj hl => ?_⟩
      have hl' : j < (Utf8.decode (s.extract st s.size) 0).2 := hl
      have h5 := d4 j (by omega) hl'
      rw [ext_get s st (0 + j) (by omega) (by omega)] at h5
      have e2 := get_cong s (show (s.size - (Utf8.decode (s.extract st s.size) 0).2) + j = st + (0 + j) by omega) hj
      show 128 ≤ (s[(s.size - (Utf8.decode (s.extract st s.size) 0).2) + j]'hj).toNat
      rw [e2]
      exact h5
  · rw [if_neg hc]
    refine ⟨by decide, Nat.le_refl _, by omega, fun j hj hl => ?_⟩
    have hl' : j < 1 := hl
    obtain rfl : j = 0 := by omega
    show 128 ≤ (s[(s.size - 1) + 0]'hj).toNat
    exact hhi
theorem last_low (s : ByteArray) (h0 : 0 < s.size) (hlo : (s[s.size - 1]'(by omega)).toNat < 128) : Lib.decodeLastL s.data.toList = ((s[s.size - 1]'(by omega)).toNat, 1) := by
  have hne : s.data.toList ≠ [] := fun e => by
    have := size_list s
    rw [e, List.length_nil] at this
    omega
  have hl : s.data.toList.length = s.size := (size_list s).symm
  have hd : s.data.toList.getD (s.data.toList.length - 1) 0 = s[s.size - 1]'(by omega) := by
    rw [hl, getD_get (by omega)]
  unfold Lib.decodeLastL
  rw [if_neg hne, hd, if_pos hlo]
set_option maxRecDepth 100000 in
set_option maxHeartbeats 2000000 in
theorem lastIndexAny_short (s g : ByteArray) (w : World) (hg : ∀ b ∈ g.data.toList, b.toNat < 128) (h4 : 2 ≤ g.size) (h5 : g.size ≤ 200) (h8 : s.size ≤ 8) (h1 : s.size ≠ 1) (hT : Lib.Utf8Tabs 1 2 w) :
    Calls Tryz.prog 53 #[.string s, .string g] w fun e w' => e = .returned (.int .i64 (lastAny s.data.toList g.data.toList)) ∧ Below w.heap.size w w' := by
  have HG := Lib.hid hg
  have HT := Lib.hid hT
  clear hg hT
  have hemp : g.toList.isEmpty = false := by
    rw [ByteArray.toList_eq]
    cases h : g.data.toList with
    | nil => have := size_list g; rw [h, List.length_nil] at this; omega
    | cons _ _ => rfl
  have hne : (g.toList == [] : Bool) = false := by
    rw [ByteArray.toList_eq]
    cases h : g.data.toList with
    | nil => have := size_list g; rw [h, List.length_nil] at this; omega
    | cons _ _ => rfl
  have hn1 : ((g.size : Int) == 1) = false := beq_eq_false_iff_ne.2 (by omega)
  have hs1 : ((s.size : Int) == 1) = false := beq_eq_false_iff_ne.2 (by omega)
  have h8z : decide ((8 : Int) < (s.size : Int)) = false := decide_eq_false (by omega)
  go_enter Tryz.func53, Tryz.ntmps53
  go_wp2_with (go_at_call 58; refine (Tryz.strings_shouldUseASCIISet _ _).mono ?_; rintro e w' ⟨rfl, hw⟩; rw [hw, h8z])
  go_loopg [13, 14, 15] s.size (fun n s10 _ _ wx => ∃ i : Nat, i = n ∧ i ≤ s.size ∧ s10 = .int .i64 (i : Int) ∧ Below w.heap.size w wx ∧ Hid (NoFrom s g.data.toList i))
  case atStart => exact ⟨s.size, rfl, Nat.le_refl _, rfl, Below.refl _ _, ⟨Nat.le_refl _, fun j hj h => by omega⟩⟩
  case round =>
    obtain ⟨i, rfl, his, rfl, hb, HN⟩ := hrel
    by_cases hi0 : i = 0
    · subst hi0
      go_wp2
      go_ret
      exact ⟨by rw [HN.out.at_end]; rfl, hb⟩
    · have hi : 0 < i := by omega
      have hts : (s.extract 0 i).size = i := by rw [ByteArray.size_extract]; omega
      have hT1 : Lib.Utf8Tabs 1 2 wr := Utf8Tabs_below HT.out hb
      have cd := Tryz.utf8_DecodeLastRuneInString (s.extract 0 i) wr (by omega) hT1
      have hlast : ∀ j (hj : j < (s.extract 0 i).size), (s.extract 0 i)[j]'hj = s[j]'(by omega) := fun j hj => by
        rw [ByteArray.getElem_extract]
        exact get_cong s (by omega) _
      by_cases hx : (s[i - 1]'(by omega)).toNat < 128
      · have hlow := last_low (s.extract 0 i) (by omega) (by rw [hlast]; have e := get_cong s (show (s.extract 0 i).size - 1 = i - 1 by omega) (by omega); rw [e]; exact hx)
        have hlv : (s.extract 0 i)[(s.extract 0 i).size - 1]'(by omega) = s[i - 1]'(by omega) := by
          rw [hlast]
          exact get_cong s (show (s.extract 0 i).size - 1 = i - 1 by omega) _
        rw [hlv] at hlow
        rw [hlow] at cd
        have hcon := Lib.contains_iff_indexByte g.data.toList (s[i - 1]'(by omega))
        have hback : (((s[i - 1]'(by omega)).toNat : Int)).toNat.toUInt8 = s[i - 1]'(by omega) := by simp
        have hii : i - 1 + 1 = i := by omega
        have HN1 : NoFrom s g.data.toList (i - 1 + 1) := by rw [hii]; exact HN.out
        cases hin : g.data.toList.contains (s[i - 1]'(by omega))
        · rw [hin] at hcon
          have hlt : Lib.indexByte g.data.toList (s[i - 1]'(by omega)) < 0 := by have := of_decide_eq_false hcon.symm; omega
          have HJ := Lib.hid (HN1.back (by omega) hin)
          clear hcon hin HN1 HN hlast hlow hlv
          go_wp2_with (first
            | (go_at_call 75; refine cd.mono ?_; rintro e w2 ⟨rfl, hb2⟩)
            | (go_at_call 57; refine (Tryz.strings_IndexRune_ascii _ _ _ (by omega) (by omega)).mono ?_; rintro e w3 ⟨rfl, hw⟩; rw [hw, hback]))
          go_roundg (i - 1)
          case measure => omega
          case rel => exact ⟨i - 1, rfl, by omega, by go_num, hb.trans (hb2.mono hb.size), HJ.out⟩
        · rw [hin] at hcon
          have hge : 0 ≤ Lib.indexByte g.data.toList (s[i - 1]'(by omega)) := of_decide_eq_true hcon.symm
          have HJ := Lib.hid (HN1.at_hit (by omega) hin)
          clear hcon hin HN1 HN hlast hlow hlv
          go_wp2_with (first
            | (go_at_call 75; refine cd.mono ?_; rintro e w2 ⟨rfl, hb2⟩)
            | (go_at_call 57; refine (Tryz.strings_IndexRune_ascii _ _ _ (by omega) (by omega)).mono ?_; rintro e w3 ⟨rfl, hw⟩; rw [hw, hback]))
          go_ret
          refine ⟨?_, hb.trans (hb2.mono hb.size)⟩
          have e1 : ((i - 1 : Nat) : Int) = (i : Int) - 1 := by omega
          rw [HJ.out, e1]
          rfl
      · obtain ⟨d1, d2, d3, d4⟩ := last_high (s.extract 0 i) (by omega) (by rw [hlast]; have e := get_cong s (show (s.extract 0 i).size - 1 = i - 1 by omega) (by omega); rw [e]; omega)
        rw [hts] at d3
        have hjump : NoFrom s g.data.toList (i - (Lib.decodeLastL (s.extract 0 i).data.toList).2) := by
          refine NoFrom.jump (d := (Lib.decodeLastL (s.extract 0 i).data.toList).2) (by rw [Nat.sub_add_cancel d3]; exact HN.out) (fun j hj hl => ?_) HG.out
          have h6 := d4 j (by omega) hl
          rw [hlast] at h6
          have e := get_cong s (show (s.extract 0 i).size - (Lib.decodeLastL (s.extract 0 i).data.toList).2 + j = i - (Lib.decodeLastL (s.extract 0 i).data.toList).2 + j by omega) (by omega)
          rw [e] at h6
          exact h6
        generalize Lib.decodeLastL (s.extract 0 i).data.toList = dd at cd d1 d2 d3 hjump
        clear d4 hlast hx
        have HJ := Lib.hid hjump
        clear hjump HN
        go_wp2_with (first
          | (go_at_call 75; refine cd.mono ?_; rintro e w2 ⟨rfl, hb2⟩)
          | (go_at_call 57; refine (indexRune_high2 _ _ _ HG.out h4 h5 (by omega)).mono ?_; rintro e w3 ⟨rfl, hb3⟩))
        go_roundg (i - dd.2)
        case measure => omega
        case rel => exact ⟨i - dd.2, rfl, by omega, by go_num, (hb.trans (hb2.mono hb.size)).trans (hb3.mono (Nat.le_trans hb.size hb2.size)), HJ.out⟩
/-- whatever the text -/
theorem lastIndexAny_any (s g : ByteArray) (w : World) (hg : ∀ b ∈ g.data.toList, b.toNat < 128) (h4 : 2 ≤ g.size) (h5 : g.size ≤ 200) (hs : s.size < 4294967281) (hT : Lib.Utf8Tabs 1 2 w) :
    Calls Tryz.prog 53 #[.string s, .string g] w fun e w' => e = .returned (.int .i64 (lastAny s.data.toList g.data.toList)) ∧ Below w.heap.size w w' := by
  by_cases h1 : s.size = 1
  · exact lastIndexAny_one s g w hg h4 h5 h1
  · rcases Nat.lt_or_ge 8 s.size with h | h
    · exact lastIndexAny_long s g w hg h4 h5 h hs
    · exact lastIndexAny_short s g w hg h4 h5 h h1 hT
end Go.Proofs.YtcjmfjccjhdgjaaGreatDoor
namespace Go.Bd
/-- how many of a sign a line has at its beginning -/
def runOf (l : Bs) (c : UInt8) : Nat := (l.takeWhile (· == c)).length
/-- a sign, one to three times, ahead of a byte 32 -/
def leadB (l : Bs) (c : UInt8) : Nat × Bs := if runOf l c < 1 ∨ 3 < runOf l c ∨ l[runOf l c]? ≠ some 32 then (0, []) else (runOf l c, dropL (l.drop (runOf l c)))
/-- the word behind ! and what stands behind it -/
def commandB (l : Bs) : Option (Bs × Bs) :=
  if l.length < 2 ∨ l.getD 0 0 ≠ 33 ∨ (l.getD 1 0 ||| 32).toNat < 97 ∨ 122 < (l.getD 1 0 ||| 32).toNat then none
  else if 0 ≤ Lib.indexAny (l.drop 1) [32, 9] then some ((l.drop 1).take (Lib.indexAny (l.drop 1) [32, 9]).toNat, dropL ((l.drop 1).drop (Lib.indexAny (l.drop 1) [32, 9]).toNat)) else some (l.drop 1, [])
/-- a title, its label, a word that may be none -/
def titleB (l : Bs) : Bs × Bs × Bs :=
  if lastAny l [32, 9] < 0 ∨ (l.drop ((lastAny l [32, 9]).toNat + 1)).getD 0 0 ≠ 35 then (l, [], [])
  else if nameB ((l.drop ((lastAny l [32, 9]).toNat + 1)).drop 1) = true then (dropR (l.take (lastAny l [32, 9]).toNat), (l.drop ((lastAny l [32, 9]).toNat + 1)).drop 1, []) else (l, [], l.drop ((lastAny l [32, 9]).toNat + 1))
def itemB (l : Bs) : Nat × Bool × Bs := if 0 < (leadB (trim l) 42).1 then ((leadB (trim l) 42).1, false, (leadB (trim l) 42).2) else if 0 < (leadB (trim l) 46).1 then ((leadB (trim l) 46).1, true, (leadB (trim l) 46).2) else (0, false, [])
def headB (l : Bs) : Nat × Bs × Bs := if (leadB (trim l) 61).1 = 0 then (0, [], []) else ((leadB (trim l) 61).1, (titleB (leadB (trim l) 61).2).1, (titleB (leadB (trim l) 61).2).2.1)
def fenceL : Bs := [45, 45, 45, 45]
def barsL : Bs := [124, 61, 61, 61]
/-- is a line, asf it counts, one of a paragraph? -/
def plainL (l : Bs) : Bool := !(decide (l = []) || decide (l = fenceL) || Lib.hasPrefix l barsL) && (commandB l).isNone && decide ((leadB l 61).1 = 0) && decide ((itemB l).1 = 0)
theorem runOf_le (l : Bs) (c : UInt8) : runOf l c ≤ l.length := by
  unfold runOf
  induction l with
  | nil => simp
  | cons a l ih =>
    rw [List.takeWhile_cons]
    split
    · simp only [List.length_cons]; omega
    · simp
theorem runOf_at {l : Bs} {c : UInt8} : ∀ {k : Nat}, k ≤ l.length → (∀ j, j < k → l[j]? = some c) → (∀ b, l[k]? = some b → b ≠ c) → runOf l c = k := by
  induction l with
  | nil => intro k hk _ _; simp at hk; subst hk; rfl
  | cons a l ih =>
    intro k hk h1 h2
    cases k with
    | zero =>
      have : a ≠ c := h2 a rfl
      unfold runOf
      rw [List.takeWhile_cons, if_neg (by simpa using this)]
      rfl
    | succ k =>
      obtain rfl : a = c := by simpa using h1 0 (by omega)
      have := ih (k := k) (by simpa using hk) (fun j hj => by simpa using h1 (j + 1) (by omega)) (fun b hb => h2 b (by simpa using hb))
      unfold runOf at this ⊢
      rw [List.takeWhile_cons, if_pos (by simp), List.length_cons, this]
theorem dropL_le (l : Bs) : (dropL l).length ≤ l.length := by
  unfold dropL
  induction l with
  | nil => simp
  | cons a l ih =>
    rw [List.dropWhile_cons]
    split
    · simp only [List.length_cons]; omega
    · simp
theorem lead_le (l : Bs) (c : UInt8) : (leadB l c).2.length ≤ l.length := by
  unfold leadB
  split
  · simp
  · have := dropL_le (l.drop (runOf l c))
    rw [List.length_drop] at this
    simp only
    omega
end Go.Bd
namespace Go.Proofs.YtcjmfjccjhdgjaaGreatDoor
open Go.RowKit Go.Bd
theorem strV_of {s : ByteArray} {l : Bs} (h : s.data.toList = l) : Value.string s = strV l := by
  subst h; simp [strV]
theorem get_list (s : ByteArray) {k : Nat} (h : k < s.size) : s.data.toList[k]? = some (s[k]'h) := by
  rw [List.getElem?_eq_getElem (by simpa using h)]
  rfl
set_option maxRecDepth 100000 in
set_option maxHeartbeats 1000000 in
theorem leading_any (s : ByteArray) (c : UInt8) (w : World) (hs : s.size ≤ 100000) :
    Calls Tryz.prog 28 #[.string s, .int .u8 (c.toNat : Int)] w fun e w' => e = .returned (.tuple #[.int .i64 ((leadB s.data.toList c).1 : Int), strV (leadB s.data.toList c).2]) ∧ Below w.heap.size w w' := by
  have hlen : s.data.toList.length = s.size := by simp
  obtain ⟨L, hL⟩ : ∃ L, leadB s.data.toList c = L := ⟨_, rfl⟩
  rw [hL]
  have HL := Lib.hid hL
  clear hL
  go_enter Tryz.func28, Tryz.ntmps28
  go_wp2
  go_loopg [6] (s.size) (fun q v wr => ∃ k : Nat, k + q = s.size ∧ v = .int .i64 (k : Int) ∧ wr = w ∧ Hid (∀ j, j < k → s.data.toList[j]? = some c))
  case atStart => exact ⟨0, by omega, rfl, rfl, fun j hj => by omega⟩
  case round =>
    obtain ⟨k, hk, rfl, rfl, HJ⟩ := hrel
    by_cases hlt : k < s.size
    · by_cases hc : s[k] = c
      · have HK : Hid (∀ j, j < k + 1 → s.data.toList[j]? = some c) := fun j hj => by
          by_cases e : j = k
          · subst e; rw [get_list s hlt, hc]
          · exact HJ.out j (by omega)
        have hcn : ((s[k]).toNat : Int) = (c.toNat : Int) := by rw [hc]
        clear HJ
        go_wp2
        go_roundg (gk - 1)
        case measure => omega
        case rel => exact ⟨k + 1, by omega, by go_num, rfl, HK.out⟩
      · have hrun : runOf s.data.toList c = k := runOf_at (by omega) HJ.out (fun b hb => by rw [get_list s hlt] at hb; injection hb with hb; subst hb; exact hc)
        have hcn : ¬ ((s[k]).toNat : Int) = (c.toNat : Int) := fun e => hc (UInt8.toNat_inj.1 (by omega))
        have hcb : (((s[k]).toNat : Int) == (c.toNat : Int)) = false := beq_eq_false_iff_ne.2 hcn
        by_cases hbad : k < 1 ∨ 3 < k ∨ ¬ (s[k]).toNat = 32
        · have hres : leadB s.data.toList c = (0, []) := by
            unfold leadB
            rw [hrun, if_pos]
            rcases hbad with h | h | h
            · exact .inl h
            · exact .inr (.inl h)
            · refine .inr (.inr fun e => h ?_)
              rw [get_list s hlt] at e
              injection e with e
              rw [e]; rfl
          obtain rfl : L = (0, []) := HL.out.symm.trans hres
          clear HJ hlen hrun hc hres
          by_cases h1 : k < 1
          · go_wp2
            go_ret2
            exact ⟨rfl, Below.refl _ _⟩
          · by_cases h2 : 3 < k
            · go_wp2
              go_ret2
              exact ⟨rfl, Below.refl _ _⟩
            · have h3 : ¬ ((s[k]).toNat : Int) = 32 := by
                rcases hbad with h | h | h
                · exact absurd h h1
                · exact absurd h h2
                · omega
              have h4 : ¬ k = s.size := by omega
              have h3b : (((s[k]).toNat : Int) != 32) = true := by simpa using h3
              have h4b : ((k : Int) == (s.size : Int)) = false := beq_eq_false_iff_ne.2 (by omega)
              go_wp2
              go_ret2
              exact ⟨rfl, Below.refl _ _⟩
        · have h1 : ¬ k < 1 := fun h => hbad (.inl h)
          have h2 : ¬ 3 < k := fun h => hbad (.inr (.inl h))
          have h3 : (s[k]).toNat = 32 := Classical.byContradiction fun h => hbad (.inr (.inr h))
          have h3' : ((s[k]).toNat : Int) = 32 := by omega
          have h4 : ¬ k = s.size := by omega
          have h3b : (((s[k]).toNat : Int) != 32) = false := by simpa using h3'
          have h4b : ((k : Int) == (s.size : Int)) = false := beq_eq_false_iff_ne.2 (by omega)
          have hres : leadB s.data.toList c = (k, dropL (s.data.toList.drop k)) := by
            unfold leadB
            rw [hrun, if_neg]
            rintro (h | h | h)
            · exact h1 h
            · exact h2 h
            · refine h ?_
              rw [get_list s hlt]
              congr 1
              exact UInt8.toNat_inj.1 h3
          obtain rfl : L = (k, dropL (s.data.toList.drop k)) := HL.out.symm.trans hres
          have htl := strTrimL_any (s.extract k s.size) wr (by rw [ByteArray.size_extract]; omega)
          rw [extract_list, List.take_of_length_le (by rw [List.length_drop, hlen]; omega)] at htl
          clear HJ hlen hrun hc hbad hres
          go_wp2_with (go_at_call 37; refine htl.mono ?_; rintro e w2 ⟨rfl, hb2⟩)
          go_ret2
          exact ⟨rfl, hb2⟩
    · obtain rfl : k = s.size := by omega
      have hrun : runOf s.data.toList c = s.size := runOf_at (by omega) HJ.out (fun b hb => by rw [List.getElem?_eq_none (by omega)] at hb; cases hb)
      have hres : leadB s.data.toList c = (0, []) := by
        unfold leadB
        rw [hrun, if_pos]
        exact .inr (.inr (by rw [List.getElem?_eq_none (by omega)]; simp))
      obtain rfl : L = (0, []) := HL.out.symm.trans hres
      clear HJ hlen hrun hres
      by_cases h1 : s.size < 1
      · go_wp2
        go_ret2
        exact ⟨rfl, Below.refl _ _⟩
      · by_cases h2 : 3 < s.size
        · go_wp2
          go_ret2
          exact ⟨rfl, Below.refl _ _⟩
        · go_wp2
          go_ret2
          exact ⟨rfl, Below.refl _ _⟩
end Go.Proofs.YtcjmfjccjhdgjaaGreatDoor
namespace Go.Proofs.YtcjmfjccjhdgjaaGreatDoor
open Go.RowKit Go.Bd
theorem strV_data (l : Bs) : (⟨l.toArray⟩ : ByteArray).data.toList = l := by simp
theorem trim_size (s : ByteArray) : (trim s.data.toList).length ≤ s.size := by have := trim_le s.data.toList; rw [← size_list] at this; exact this
set_option maxRecDepth 100000 in
set_option maxHeartbeats 1000000 in
theorem item_any (s : ByteArray) (w : World) (hs : s.size ≤ 100000) :
    Calls Tryz.prog 17 #[.string s] w fun e w' => e = .returned (.tuple #[.int .i64 ((itemB s.data.toList).1 : Int), .bool (itemB s.data.toList).2.1, strV (itemB s.data.toList).2.2]) ∧ Below w.heap.size w w' := by
  have htr := strTrim_any s w (by omega)
  have hts := trim_size s
  have hl1 := fun w' => leading_any ⟨(trim s.data.toList).toArray⟩ 42 w' (by rw [size_mk]; omega)
  have hl2 := fun w' => leading_any ⟨(trim s.data.toList).toArray⟩ 46 w' (by rw [size_mk]; omega)
  rw [strV_data] at hl1 hl2
  obtain ⟨L, hL⟩ : ∃ L, itemB s.data.toList = L := ⟨_, rfl⟩
  rw [hL]
  have HL := Lib.hid hL
  unfold itemB at hL
  unfold strV at htr
  generalize hA : leadB (trim s.data.toList) 42 = A at hl1 hL
  generalize hC : leadB (trim s.data.toList) 46 = C at hl2 hL
  generalize (trim s.data.toList) = t at htr hl1 hl2 hts
  clear hA hC HL
  have HL := Lib.hid hL
  clear hL
  obtain ⟨a1, a2⟩ := A
  obtain ⟨c1, c2⟩ := C
  simp only at hl1 hl2
  have e42 : (((42 : UInt8).toNat : Nat) : Int) = 42 := rfl
  have e46 : (((46 : UInt8).toNat : Nat) : Int) = 46 := rfl
  rw [e42] at hl1
  rw [e46] at hl2
  clear e42 e46
  unfold strV at hl1 hl2
  by_cases h1 : 0 < a1
  · obtain rfl : L = (a1, false, a2) := by rw [← HL.out]; simp [h1]
    go_enter Tryz.func17, Tryz.ntmps17
    go_wp2_with (first
      | (go_at_call 29; refine htr.mono ?_; rintro e w1 ⟨rfl, hb1⟩)
      | (go_at_call 28; refine (hl1 _).mono ?_; rintro e w2 ⟨rfl, hb2⟩))
    (try simp only [Exit.inBlock, Exit.then]); refine bodyPost_ret (results_tmp3 rfl _ _ _) rfl ?_
    exact ⟨rfl, hb1.trans (hb2.mono hb1.size)⟩
  · by_cases h2 : 0 < c1
    · obtain rfl : L = (c1, true, c2) := by rw [← HL.out]; simp [h1, h2]
      go_enter Tryz.func17, Tryz.ntmps17
      go_wp2_with (first
        | (go_at_call 29; refine htr.mono ?_; rintro e w1 ⟨rfl, hb1⟩)
        | (go_at_call 28; refine (hl1 _).mono ?_; clear hl1; rintro e w2 ⟨rfl, hb2⟩)
        | (go_at_call 28; refine (hl2 _).mono ?_; rintro e w3 ⟨rfl, hb3⟩))
      (try simp only [Exit.inBlock, Exit.then]); refine bodyPost_ret (results_tmp3 rfl _ _ _) rfl ?_
      have e1 := hb1.trans (hb2.mono hb1.size)
      exact ⟨rfl, e1.trans (hb3.mono e1.size)⟩
    · obtain rfl : L = (0, false, []) := by rw [← HL.out]; simp [h1, h2]
      go_enter Tryz.func17, Tryz.ntmps17
      go_wp2_with (first
        | (go_at_call 29; refine htr.mono ?_; rintro e w1 ⟨rfl, hb1⟩)
        | (go_at_call 28; refine (hl1 _).mono ?_; clear hl1; rintro e w2 ⟨rfl, hb2⟩)
        | (go_at_call 28; refine (hl2 _).mono ?_; rintro e w3 ⟨rfl, hb3⟩))
      (try simp only [Exit.inBlock, Exit.then]); refine bodyPost_ret (results_tmp3 rfl _ _ _) rfl ?_
      have e1 := hb1.trans (hb2.mono hb1.size)
      exact ⟨rfl, e1.trans (hb3.mono e1.size)⟩
/-- a line's text asf it counts -/
theorem counted_any (f t : ByteArray) (no : Int) (w : World) (hs : t.size ≤ 100000) :
    Calls Tryz.prog 21 #[.agg #[.string f, .int .i64 no, .string t]] w fun e w' => e = .returned (strV (trim t.data.toList)) ∧ Below w.heap.size w w' := by
  have htr := fun w => strTrim_any t w (by omega)
  go_enter Tryz.func21, Tryz.ntmps21
  go_wp2_with (go_at_call 29; refine (htr _).mono ?_; rintro e w1 ⟨rfl, hb1⟩)
  go_ret
  exact ⟨rfl, ((Below.refl _ w).alloc (Nat.le_refl _) _).trans (hb1.mono (by simp))⟩
end Go.Proofs.YtcjmfjccjhdgjaaGreatDoor
namespace Go.Bd
theorem lastAny_lt {g : Bs} : ∀ {l : Bs}, lastAny l g < (l.length : Int)
  | [] => by simp [lastAny]
  | b :: l => by
    have ih := lastAny_lt (g := g) (l := l)
    rw [lastAny, List.length_cons]
    split
    · omega
    · split <;> omega
theorem hasPrefix_one (l : Bs) (c : UInt8) (h0 : c ≠ 0) : Lib.hasPrefix l [c] = decide (l.getD 0 0 = c) := by
  cases l with
  | nil => simp [Lib.hasPrefix, List.isPrefixOf, Ne.symm h0]
  | cons a l =>
    simp only [Lib.hasPrefix, List.isPrefixOf, Bool.and_true, List.getD_cons_zero]
    rw [Bool.eq_iff_iff, beq_iff_eq, decide_eq_true_iff]
    exact eq_comm
end Go.Bd
namespace Go.Proofs.YtcjmfjccjhdgjaaGreatDoor
open Go.RowKit Go.Bd
theorem blanks_ascii : ∀ b ∈ (⟨#[32, 9]⟩ : ByteArray).data.toList, b.toNat < 128 := by decide
set_option maxRecDepth 100000 in
set_option maxHeartbeats 1000000 in
theorem title_any (s : ByteArray) (w : World) (hs : s.size ≤ 100000) (hT : Lib.Utf8Tabs 1 2 w) :
    Calls Tryz.prog 30 #[.string s] w fun e w' => e = .returned (.tuple #[strV (titleB s.data.toList).1, strV (titleB s.data.toList).2.1, strV (titleB s.data.toList).2.2]) ∧ Below w.heap.size w w' := by
  have cl := lastIndexAny_any s ⟨#[32, 9]⟩ w blanks_ascii (by decide) (by decide) (by omega) hT
  have e9 : (⟨#[32, 9]⟩ : ByteArray).data.toList = [32, 9] := rfl
  rw [e9] at cl
  have hlt := lastAny_lt (g := [32, 9]) (l := s.data.toList)
  have hlen : s.data.toList.length = s.size := by simp
  obtain ⟨L, hL⟩ : ∃ L, titleB s.data.toList = L := ⟨_, rfl⟩
  rw [hL]
  unfold titleB at hL
  have hsv : strV s.data.toList = .string s := (strV_of rfl).symm
  clear e9 hT
  generalize lastAny s.data.toList [32, 9] = i at cl hlt hL
  by_cases hi : i < 0
  · rw [if_pos (.inl hi)] at hL
    subst hL
    simp only [hsv]
    go_enter Tryz.func30, Tryz.ntmps30
    go_wp2_with (go_at_call 53; refine cl.mono ?_; rintro e w1 ⟨rfl, hb1⟩)
    (try simp only [Exit.inBlock, Exit.then])
    refine bodyPost_ret (results_tmp3 rfl _ _ _) rfl ?_
    exact ⟨rfl, hb1⟩
  · obtain ⟨k, rfl⟩ : ∃ k : Nat, i = k := ⟨i.toNat, by omega⟩
    rw [hlen] at hlt
    simp only [Int.toNat_natCast] at hL
    have hks : k + 1 ≤ s.size := by omega
    have hcp := fun w => Tryz.strings_HasPrefix (s.extract (k + 1) s.size) ⟨#[35]⟩ w
    have hwd : (s.extract (k + 1) s.size).data.toList = s.data.toList.drop (k + 1) := by
      rw [extract_list, List.take_of_length_le (by rw [List.length_drop, hlen]; omega)]
    have hws : (s.extract (k + 1) s.size).size = s.size - (k + 1) := by rw [ByteArray.size_extract]; omega
    have e35 : (⟨#[35]⟩ : ByteArray).data.toList = [35] := rfl
    rw [e35, hwd] at hcp
    simp only [hasPrefix_one _ 35 (by decide)] at hcp
    by_cases hp : (s.data.toList.drop (k + 1)).getD 0 0 = 35
    · simp only [hp, decide_true] at hcp
      have hw1 : 1 ≤ (s.extract (k + 1) s.size).size := by
        rw [hws]
        rcases Nat.lt_or_ge (k + 1) s.size with h | h
        · omega
        · rw [List.drop_eq_nil_of_le (by omega)] at hp
          exact absurd hp (by decide)
      have hcn := fun w => name_any ((s.extract (k + 1) s.size).extract 1 (s.size - (k + 1))) w (by rw [ByteArray.size_extract]; omega)
      have hnd : ((s.extract (k + 1) s.size).extract 1 (s.size - (k + 1))).data.toList = (s.data.toList.drop (k + 1)).drop 1 := by
        rw [extract_list, hwd, List.take_of_length_le (by rw [List.length_drop, List.length_drop, hlen]; omega)]
      rw [hnd] at hcn
      rw [if_neg (by rintro (h | h); exact absurd h (by omega); exact h hp)] at hL
      have hwv : Value.string (s.extract (k + 1) s.size) = strV (s.data.toList.drop (k + 1)) := strV_of hwd
      have hnv : Value.string ((s.extract (k + 1) s.size).extract 1 (s.size - (k + 1))) = strV ((s.data.toList.drop (k + 1)).drop 1) := strV_of hnd
      have HV := Lib.hid (And.intro hwv (And.intro hnv hsv))
      clear hwv hnv hsv
      by_cases hn : nameB ((s.data.toList.drop (k + 1)).drop 1) = true
      · rw [hn] at hcn
        rw [if_pos hn] at hL
        have htr := fun w => strTrimR_any (s.extract 0 k) w (by rw [ByteArray.size_extract]; omega)
        rw [extract_list, List.drop_zero, Nat.sub_zero] at htr
        subst hL
        clear hwd hnd hn hp
        go_enter Tryz.func30, Tryz.ntmps30
        go_wp2_with (first
          | (go_at_call 53; refine cl.mono ?_; rintro e w1 ⟨rfl, hb1⟩)
          | (go_at_call 40; refine (hcp _).mono ?_; rintro e w2 ⟨rfl, rfl⟩)
          | (go_at_call 54; refine (hcn _).mono ?_; rintro e w3 ⟨rfl, rfl⟩))
        go_region_with (go_at_call 55; refine (htr _).mono ?_; rintro e w4 ⟨rfl, hb4⟩)
        all_goals go_wp2
        all_goals ((try simp only [Exit.inBlock, Exit.then]); refine bodyPost_ret (results_tmp3 rfl _ _ _) rfl ?_)
        all_goals exact ⟨by rw [← HV.out.2.1]; rfl, hb1.drew.trans (hb4.mono hb1.size)⟩
      · have hn' : nameB ((s.data.toList.drop (k + 1)).drop 1) = false := by simpa using hn
        rw [hn'] at hcn
        rw [if_neg hn] at hL
        subst hL
        clear hwd hnd hn hn' hp
        go_enter Tryz.func30, Tryz.ntmps30
        go_wp2_with (first
          | (go_at_call 53; refine cl.mono ?_; rintro e w1 ⟨rfl, hb1⟩)
          | (go_at_call 40; refine (hcp _).mono ?_; rintro e w2 ⟨rfl, rfl⟩)
          | (go_at_call 54; refine (hcn _).mono ?_; rintro e w3 ⟨rfl, rfl⟩))
        (try simp only [Exit.inBlock, Exit.then])
        refine bodyPost_ret (results_tmp3 rfl _ _ _) rfl ?_
        exact ⟨by rw [← HV.out.1, HV.out.2.2]; rfl, hb1⟩
    · simp only [hp, decide_false] at hcp
      rw [if_pos (.inr hp)] at hL
      subst hL
      simp only [hsv]
      clear hwd
      go_enter Tryz.func30, Tryz.ntmps30
      go_wp2_with (first
        | (go_at_call 53; refine cl.mono ?_; rintro e w1 ⟨rfl, hb1⟩)
        | (go_at_call 40; refine (hcp _).mono ?_; rintro e w2 ⟨rfl, rfl⟩))
      (try simp only [Exit.inBlock, Exit.then])
      refine bodyPost_ret (results_tmp3 rfl _ _ _) rfl ?_
      exact ⟨rfl, hb1⟩
end Go.Proofs.YtcjmfjccjhdgjaaGreatDoor
namespace Go.Bd
theorem indexAny_lt {g : Bs} : ∀ {l : Bs}, Lib.indexAny l g < (l.length : Int)
  | [] => by simp [Lib.indexAny]
  | b :: l => by
    have ih := indexAny_lt (g := g) (l := l)
    rw [Lib.indexAny, List.length_cons]
    split
    · omega
    · split <;> omega
end Go.Bd
namespace Go.Proofs.YtcjmfjccjhdgjaaGreatDoor
open Go.RowKit Go.Bd
/-- what a command is, asf it is answered -/
def commandV (l : Bs) : Value := match commandB l with | none => .tuple #[strV [], strV [], .bool false] | some (a, b) => .tuple #[strV a, strV b, .bool true]
theorem getD_get2 {s : ByteArray} {m : Nat} (h : m < s.size) : s.data.toList.getD m 0 = s[m] := getD_get h
theorem bits_or (c : UInt8) : bits BinOp.or IntKind.u8 (c.toNat : Int) 32 = ((c ||| 32).toNat : Int) := by
  have h : ∀ n : Fin 256, bits BinOp.or IntKind.u8 (n.1 : Int) 32 = ((UInt8.ofNat n.1 ||| 32).toNat : Int) := by decide +kernel
  have h2 := h ⟨c.toNat, c.toNat_lt⟩
  simp only [UInt8.ofNat_toNat] at h2
  exact h2
set_option maxRecDepth 100000 in
set_option maxHeartbeats 1000000 in
theorem command_any (s : ByteArray) (w : World) (hs : s.size ≤ 100000) :
    Calls Tryz.prog 22 #[.string s] w fun e w' => e = .returned (commandV s.data.toList) ∧ Below w.heap.size w w' := by
  have hlen : s.data.toList.length = s.size := by simp
  obtain ⟨L, hL⟩ : ∃ L, commandV s.data.toList = L := ⟨_, rfl⟩
  rw [hL]
  unfold commandV at hL
  by_cases h2 : s.size < 2
  · have e : commandB s.data.toList = none := by unfold commandB; rw [if_pos (.inl (by omega))]
    rw [e] at hL
    subst hL
    go_enter Tryz.func22, Tryz.ntmps22
    go_wp2
    (try simp only [Exit.inBlock, Exit.then])
    refine bodyPost_ret (results_tmp3 rfl _ _ _) rfl ?_
    exact ⟨rfl, Below.refl _ _⟩
  · by_cases h33 : ¬ (s[0]'(by omega)).toNat = 33
    · have e : commandB s.data.toList = none := by
        unfold commandB
        rw [if_pos (.inr (.inl (by rw [getD_get2 (by omega)]; exact fun h => h33 (by rw [h]; rfl))))]
      rw [e] at hL
      subst hL
      have hb : (((s[0]'(by omega)).toNat : Int) != 33) = true := by simpa using (show ¬ ((s[0]'(by omega)).toNat : Int) = 33 by omega)
      go_enter Tryz.func22, Tryz.ntmps22
      go_wp2
      (try simp only [Exit.inBlock, Exit.then])
      refine bodyPost_ret (results_tmp3 rfl _ _ _) rfl ?_
      exact ⟨rfl, Below.refl _ _⟩
    · have h33' : (s[0]'(by omega)).toNat = 33 := Classical.byContradiction h33
      have hb : (((s[0]'(by omega)).toNat : Int) != 33) = false := by simpa using (show ((s[0]'(by omega)).toNat : Int) = 33 by omega)
      have hbo := bits_or (s[1]'(by omega))
      have hg1 : s.data.toList.getD 1 0 = s[1]'(by omega) := getD_get2 (by omega)
      have hg0 : s.data.toList.getD 0 0 = 33 := by
        rw [getD_get2 (by omega)]
        exact UInt8.toNat_inj.1 h33'
      by_cases hl : (s.data.toList.getD 1 0 ||| 32).toNat < 97 ∨ 122 < (s.data.toList.getD 1 0 ||| 32).toNat
      · have e : commandB s.data.toList = none := by unfold commandB; rw [if_pos (.inr (.inr hl))]
        rw [e] at hL
        subst hL
        rw [hg1] at hl
        generalize (s[1]'(by omega) ||| 32).toNat = d at hbo hl
        clear hg1 hg0
        by_cases h97 : d < 97
        · go_enter Tryz.func22, Tryz.ntmps22
          go_wp2
          (try simp only [Exit.inBlock, Exit.then])
          refine bodyPost_ret (results_tmp3 rfl _ _ _) rfl ?_
          exact ⟨rfl, Below.refl _ _⟩
        · have h122 : 122 < d := by omega
          go_enter Tryz.func22, Tryz.ntmps22
          go_wp2
          (try simp only [Exit.inBlock, Exit.then])
          refine bodyPost_ret (results_tmp3 rfl _ _ _) rfl ?_
          exact ⟨rfl, Below.refl _ _⟩
      · have hci : ¬ (s.data.toList.length < 2 ∨ s.data.toList.getD 0 0 ≠ 33 ∨ (s.data.toList.getD 1 0 ||| 32).toNat < 97 ∨ 122 < (s.data.toList.getD 1 0 ||| 32).toNat) := by
          rintro (h | h | h)
          · omega
          · exact h hg0
          · exact hl h
        have hx := indexAnyX_any (s.extract 1 s.size) ⟨#[32, 9]⟩ w blanks_ascii (by decide) (by decide) (by rw [ByteArray.size_extract]; omega)
        have e9 : (⟨#[32, 9]⟩ : ByteArray).data.toList = [32, 9] := rfl
        have hwd : (s.extract 1 s.size).data.toList = s.data.toList.drop 1 := by
          rw [extract_list, List.take_of_length_le (by rw [List.length_drop, hlen]; omega)]
        rw [e9, hwd] at hx
        unfold commandB at hL
        rw [if_neg hci] at hL
        rw [hg1] at hl
        have hs1 : (s.extract 1 s.size).size = s.size - 1 := by rw [ByteArray.size_extract]; omega
        have hilt : Lib.indexAny (s.data.toList.drop 1) [32, 9] < (s.size : Int) - 1 + 0 ∨ Lib.indexAny (s.data.toList.drop 1) [32, 9] < 0 := by
          have := indexAny_lt (g := [32, 9]) (l := s.data.toList.drop 1)
          rw [List.length_drop, hlen] at this
          omega
        have hwv : Value.string (s.extract 1 s.size) = strV (s.data.toList.drop 1) := strV_of hwd
        have HV := Lib.hid hwv
        generalize (s[1]'(by omega) ||| 32).toNat = d at hbo hl
        have hl97 : 97 ≤ d := by omega
        have hl122 : d ≤ 122 := by omega
        clear hg1 hg0 hci e9 hl hwv
        by_cases hi : 0 ≤ Lib.indexAny (s.data.toList.drop 1) [32, 9]
        · rw [if_pos hi] at hL
          obtain ⟨k, hk⟩ : ∃ k : Nat, Lib.indexAny (s.data.toList.drop 1) [32, 9] = k := ⟨_, (Int.toNat_of_nonneg hi).symm⟩
          rw [hk] at hx hL hilt
          simp only [Int.toNat_natCast] at hL
          have hks : k < s.size - 1 := by omega
          have htl := fun w => strTrimL_any ((s.extract 1 s.size).extract k (s.size - 1)) w (by rw [ByteArray.size_extract]; omega)
          have hed : ((s.extract 1 s.size).extract k (s.size - 1)).data.toList = (s.data.toList.drop 1).drop k := by
            rw [extract_list, hwd, List.take_of_length_le (by rw [List.length_drop, List.length_drop, hlen]; omega)]
          have hfd : Value.string ((s.extract 1 s.size).extract 0 k) = strV ((s.data.toList.drop 1).take k) := strV_of (by rw [extract_list, hwd, List.drop_zero, Nat.sub_zero])
          have HFD := Lib.hid hfd
          rw [hed] at htl
          subst hL
          clear hwd hed hk hi hilt hfd
          go_enter Tryz.func22, Tryz.ntmps22
          go_wp2_with (go_at_call 36; refine hx.mono ?_; rintro e w1 ⟨rfl, hb1⟩)
          go_region_with (go_at_call 37; refine (htl _).mono ?_; rintro e w4 ⟨rfl, hb4⟩)
          all_goals go_wp2
          all_goals ((try simp only [Exit.inBlock, Exit.then]); refine bodyPost_ret (results_tmp3 rfl _ _ _) rfl ?_)
          all_goals exact ⟨by rw [← HFD.out, List.drop_drop, Nat.add_comm 1 k]; rfl, hb1.drew.trans (hb4.mono hb1.size)⟩
        · have hin : Lib.indexAny (s.data.toList.drop 1) [32, 9] < 0 := by omega
          rw [if_neg hi] at hL
          generalize Lib.indexAny (s.data.toList.drop 1) [32, 9] = i at hx hin
          subst hL
          clear hwd hi hilt
          go_enter Tryz.func22, Tryz.ntmps22
          go_wp2_with (go_at_call 36; refine hx.mono ?_; rintro e w1 ⟨rfl, hb1⟩)
          (try simp only [Exit.inBlock, Exit.then])
          refine bodyPost_ret (results_tmp3 rfl _ _ _) rfl ?_
          exact ⟨by rw [← HV.out]; rfl, hb1⟩
set_option maxRecDepth 100000 in
set_option maxHeartbeats 1000000 in
theorem head_any (s : ByteArray) (w : World) (hs : s.size ≤ 100000) (hT : Lib.Utf8Tabs 1 2 w) :
    Calls Tryz.prog 16 #[.string s] w fun e w' => e = .returned (.tuple #[.int .i64 ((headB s.data.toList).1 : Int), strV (headB s.data.toList).2.1, strV (headB s.data.toList).2.2]) ∧ Below w.heap.size w w' := by
  have htr := strTrim_any s w (by omega)
  have hts := trim_size s
  have hl1 := fun w' => leading_any ⟨(trim s.data.toList).toArray⟩ 61 w' (by rw [size_mk]; omega)
  rw [strV_data] at hl1
  have hll := lead_le (trim s.data.toList) 61
  have hti := fun w' h => title_any ⟨((leadB (trim s.data.toList) 61).2).toArray⟩ w' (by rw [size_mk]; omega) h
  rw [strV_data] at hti
  obtain ⟨L, hL⟩ : ∃ L, headB s.data.toList = L := ⟨_, rfl⟩
  rw [hL]
  unfold headB at hL
  unfold strV at htr
  have e61 : (((61 : UInt8).toNat : Nat) : Int) = 61 := rfl
  rw [e61] at hl1
  obtain ⟨T, hT0⟩ : ∃ T, titleB (leadB (trim s.data.toList) 61).2 = T := ⟨_, rfl⟩
  rw [hT0] at hti hL
  unfold strV at hl1
  have HT := Lib.hid hT
  clear e61 hT0 hll hT
  generalize leadB (trim s.data.toList) 61 = A at hl1 hL hti
  generalize (trim s.data.toList) = t at htr hl1 hts
  by_cases h0 : A.1 = 0
  · rw [if_pos h0] at hL
    subst hL
    rw [h0] at hl1
    go_enter Tryz.func16, Tryz.ntmps16
    go_wp2_with (first
      | (go_at_call 29; refine htr.mono ?_; rintro e w1 ⟨rfl, hb1⟩)
      | (go_at_call 28; refine (hl1 _).mono ?_; rintro e w2 ⟨rfl, hb2⟩))
    (try simp only [Exit.inBlock, Exit.then])
    refine bodyPost_ret (results_tmp3 rfl _ _ _) rfl ?_
    exact ⟨rfl, hb1.trans (hb2.mono hb1.size)⟩
  · rw [if_neg h0] at hL
    subst hL
    go_enter Tryz.func16, Tryz.ntmps16
    go_wp2_with (first
      | (go_at_call 29; refine htr.mono ?_; rintro e w1 ⟨rfl, hb1⟩)
      | (go_at_call 28; refine (hl1 _).mono ?_; rintro e w2 ⟨rfl, hb2⟩; have hti2 := hti w2 (Utf8Tabs_below HT.out (hb1.trans (hb2.mono hb1.size))))
      | (go_at_call 30; refine hti2.mono ?_; rintro e w3 ⟨rfl, hb3⟩))
    (try simp only [Exit.inBlock, Exit.then])
    refine bodyPost_ret (results_tmp3 rfl _ _ _) rfl ?_
    have e1 := hb1.trans (hb2.mono hb1.size)
    exact ⟨rfl, e1.trans (hb3.mono e1.size)⟩
set_option maxRecDepth 100000 in
set_option maxHeartbeats 2000000 in
theorem plain_any (s : ByteArray) (w : World) (hs : s.size ≤ 100000) :
    Calls Tryz.prog 68 #[.string s] w fun e w' => e = .returned (.bool (plainL s.data.toList)) ∧ Below w.heap.size w w' := by
  have hcp := Tryz.strings_HasPrefix s ⟨#[124, 61, 61, 61]⟩ w
  have hco := fun w => command_any s w hs
  have hl1 := fun w => leading_any s 61 w hs
  have hit := fun w => item_any s w hs
  have eb : (⟨#[124, 61, 61, 61]⟩ : ByteArray).data.toList = barsL := rfl
  rw [eb] at hcp
  have e61 : (((61 : UInt8).toNat : Nat) : Int) = 61 := rfl
  have h0e : (s = ⟨#[]⟩) = (s.data.toList = []) := by
    rw [eq_iff_iff]
    constructor
    · rintro rfl; rfl
    · intro h; cases s; simp_all
  have h4e : (s = ⟨#[45, 45, 45, 45]⟩) = (s.data.toList = fenceL) := by
    rw [eq_iff_iff]
    constructor
    · rintro rfl; rfl
    · intro h
      cases s with
      | mk d => exact congrArg ByteArray.mk (Array.toList_inj.1 h)
  obtain ⟨L, hL⟩ : ∃ L, plainL s.data.toList = L := ⟨_, rfl⟩
  rw [hL]
  unfold plainL at hL
  rw [e61] at hl1
  unfold commandV at hco
  generalize Lib.hasPrefix s.data.toList barsL = hp at hcp hL
  generalize commandB s.data.toList = cm at hco hL
  generalize leadB s.data.toList 61 = A at hl1 hL
  generalize itemB s.data.toList = I at hit hL
  have E0 := Lib.hid h0e
  have E4 := Lib.hid h4e
  have HL := Lib.hid hL
  clear h0e h4e hL eb e61
  by_cases c0 : s = ⟨#[]⟩
  · have c0' : s.data.toList = [] := E0.out ▸ c0
    obtain rfl : L = false := by rw [← HL.out, decide_eq_true c0']; simp
    go_enter Tryz.func68, Tryz.ntmps68
    go_wp2_with (go_at_call 40; refine hcp.mono ?_; rintro e w1 ⟨rfl, rfl⟩)
    go_ret
    exact ⟨rfl, Below.refl _ _⟩
  · have c0' : ¬ s.data.toList = [] := fun h => c0 (E0.out.symm ▸ h)
    by_cases c4 : s = ⟨#[45, 45, 45, 45]⟩
    · have c4' : s.data.toList = fenceL := E4.out ▸ c4
      obtain rfl : L = false := by rw [← HL.out, decide_eq_true c4']; simp
      go_enter Tryz.func68, Tryz.ntmps68
      go_wp2_with (go_at_call 40; refine hcp.mono ?_; rintro e w1 ⟨rfl, rfl⟩)
      go_ret
      exact ⟨rfl, Below.refl _ _⟩
    · have c4' : ¬ s.data.toList = fenceL := fun h => c4 (E4.out.symm ▸ h)
      have HL2 := HL.out
      rw [decide_eq_false c0', decide_eq_false c4'] at HL2
      have n0 : (s.toList == ([] : Bs)) = false := by rw [ByteArray.toList_eq]; exact beq_eq_false_iff_ne.2 c0'
      have n4 : (s.toList == ([45, 45, 45, 45] : Bs)) = false := by rw [ByteArray.toList_eq]; exact beq_eq_false_iff_ne.2 c4'
      clear c0' c4' HL E0 E4
      cases hp with
      | true =>
        obtain rfl : L = false := by rw [← HL2]; simp
        go_enter Tryz.func68, Tryz.ntmps68
        go_wp2_with (go_at_call 40; refine hcp.mono ?_; rintro e w1 ⟨rfl, rfl⟩)
        go_ret
        exact ⟨rfl, Below.refl _ _⟩
      | false =>
        cases cm with
        | some ab =>
          obtain rfl : L = false := by rw [← HL2]; simp
          go_enter Tryz.func68, Tryz.ntmps68
          go_wp2_with (first
            | (go_at_call 40; refine hcp.mono ?_; rintro e w1 ⟨rfl, rfl⟩)
            | (go_at_call 22; refine (hco _).mono ?_; rintro e w2 ⟨rfl, hb2⟩))
          go_ret
          exact ⟨rfl, hb2⟩
        | none =>
          obtain rfl : L = (decide (A.1 = 0) && decide (I.1 = 0)) := by rw [← HL2]; simp
          by_cases hA : A.1 = 0
          · have hz : decide (A.1 = 0) = true := decide_eq_true hA
            rw [hz, Bool.true_and]
            rw [hA] at hl1
            by_cases hI : I.1 = 0
            · rw [hI] at hit ⊢
              go_enter Tryz.func68, Tryz.ntmps68
              go_wp2_with (first
                | (go_at_call 40; refine hcp.mono ?_; rintro e w1 ⟨rfl, rfl⟩)
                | (go_at_call 22; refine (hco _).mono ?_; rintro e w2 ⟨rfl, hb2⟩)
                | (go_at_call 28; refine (hl1 _).mono ?_; rintro e w3 ⟨rfl, hb3⟩)
                | (go_at_call 17; refine (hit _).mono ?_; rintro e w4 ⟨rfl, hb4⟩))
              go_ret
              have e1 := hb2.trans (hb3.mono hb2.size)
              exact ⟨rfl, e1.trans (hb4.mono e1.size)⟩
            · rw [decide_eq_false hI]
              have hI' : ¬ (I.1 : Int) = 0 := by omega
              go_enter Tryz.func68, Tryz.ntmps68
              go_wp2_with (first
                | (go_at_call 40; refine hcp.mono ?_; rintro e w1 ⟨rfl, rfl⟩)
                | (go_at_call 22; refine (hco _).mono ?_; rintro e w2 ⟨rfl, hb2⟩)
                | (go_at_call 28; refine (hl1 _).mono ?_; rintro e w3 ⟨rfl, hb3⟩)
                | (go_at_call 17; refine (hit _).mono ?_; rintro e w4 ⟨rfl, hb4⟩))
              go_ret
              have e1 := hb2.trans (hb3.mono hb2.size)
              exact ⟨by simp [hI], e1.trans (hb4.mono e1.size)⟩
          · have hz : decide (A.1 = 0) = false := decide_eq_false hA
            rw [hz, Bool.false_and]
            have hA' : ¬ (A.1 : Int) = 0 := by omega
            go_enter Tryz.func68, Tryz.ntmps68
            go_wp2_with (first
              | (go_at_call 40; refine hcp.mono ?_; rintro e w1 ⟨rfl, rfl⟩)
              | (go_at_call 22; refine (hco _).mono ?_; rintro e w2 ⟨rfl, hb2⟩)
              | (go_at_call 28; refine (hl1 _).mono ?_; rintro e w3 ⟨rfl, hb3⟩)
              | (go_at_call 17; refine (hit _).mono ?_; rintro e w4 ⟨rfl, hb4⟩))
            go_ret
            have e1 := hb2.trans (hb3.mono hb2.size)
            exact ⟨by simp [hA], e1.trans (hb4.mono e1.size)⟩
end Go.Proofs.YtcjmfjccjhdgjaaGreatDoor
namespace Go.Bd
open Go.RowKit
structure Ln where
  file : ByteArray
  no : Int
  text : ByteArray
structure Dg where
  file : ByteArray
  line : Int
  fault : Nat
  text : ByteArray
structure Bl where
  kind : Nat
  level : Nat
  ordered : Bool
  label : ByteArray
  text : ByteArray
  spans : List Sp
  rows : List (List (List Sp))
  file : ByteArray
  line : Int
def lnCells (x : Ln) : List Value := [.string x.file, .int .i64 x.no, .string x.text]
def dgCells (d : Dg) : List Value := [.string d.file, .int .i64 d.line, .int .i64 (d.fault : Int), .string d.text]
def blCells (x : Bl) (kv : Value × Value) : List Value := [.int .u8 (x.kind : Int), .int .i64 (x.level : Int), .bool x.ordered, .string x.label, .string x.text, kv.1, kv.2, .string x.file, .int .i64 x.line]
def rowD : List Dg → List Value
  | [] => []
  | d :: l => dgCells d ++ rowD l
def rowBl : List Bl → List (Value × Value) → List Value
  | x :: l, kv :: kvs => blCells x kv ++ rowBl l kvs
  | _, _ => []
theorem rowD_length : ∀ l : List Dg, (rowD l).length = l.length * 4
  | [] => rfl
  | d :: l => by rw [rowD, List.length_append, rowD_length l, List.length_cons]; simp [dgCells]; omega
theorem rowD_append : ∀ a b : List Dg, rowD (a ++ b) = rowD a ++ rowD b
  | [], _ => rfl
  | d :: a, b => by simp only [List.cons_append, rowD, rowD_append a b, List.append_assoc]
theorem rowBl_length : ∀ {l : List Bl} {kvs : List (Value × Value)}, kvs.length = l.length → (rowBl l kvs).length = l.length * 9
  | [], _, _ => by simp [rowBl]
  | x :: l, [], h => by simp at h
  | x :: l, kv :: kvs, h => by
    rw [rowBl, List.length_append, rowBl_length (l := l) (kvs := kvs) (by simpa using h), List.length_cons]
    simp [blCells]
    omega
theorem rowBl_snoc : ∀ {l : List Bl} {kvs : List (Value × Value)} (x : Bl) (kv : Value × Value), kvs.length = l.length → rowBl (l ++ [x]) (kvs ++ [kv]) = rowBl l kvs ++ blCells x kv
  | [], [], x, kv, _ => by simp [rowBl]
  | [], _ :: _, _, _, h => by simp at h
  | y :: l, [], _, _, h => by simp at h
  | y :: l, ku :: kvs, x, kv, h => by
    simp only [List.cons_append, rowBl, List.append_assoc]
    rw [rowBl_snoc x kv (by simpa using h)]
/-- a slice of lines asf it reads, in blocks of L -/
def LinesAt (w : World) (L : Nat → Prop) (v : Value) (ls : List Ln) : Prop :=
  ∃ A c, v = .slice A ls.length c ∧ ls.length ≤ c ∧ (ls ≠ [] → ∃ b off, A = some ⟨b, off, none⟩ ∧ L b ∧ ∀ (j : Nat) x, ls[j]? = some x → ∀ (i : Nat) u, (lnCells x)[i]? = some u → w.cell? ⟨b, off + j * 3 + i, none⟩ = some u)
theorem LinesAt.chg {w w' : World} {L S : Nat → Prop} {v : Value} {ls : List Ln} (h : LinesAt w L v ls) (hc : Chg w w' S) (hS : ∀ k, L k → ¬ S k) : LinesAt w' L v ls := by
  obtain ⟨A, c, h1, h2, h3⟩ := h
  refine ⟨A, c, h1, h2, fun hn => ?_⟩
  obtain ⟨b, off, h4, h5, h6⟩ := h3 hn
  exact ⟨b, off, h4, h5, fun j x hj i u hu => hc.cell (p := ⟨b, off + j * 3 + i, none⟩) (hS b h5) (h6 j x hj i u hu)⟩
def tR : TypeId := 58
def tBl : TypeId := 35
def tDg : TypeId := 38
/-- a reader asf it stands: what is its own lies in O, its blocks' trees in F -/
structure Rdr (w : World) (O F : Nat → Prop) (rb : Nat) (lv : Value) (pos : Nat) (bv : Value) (bs : List Bl) (dv : Value) (ds : List Dg) : Prop where
  hold : Holds w rb tR #[lv, .int .i64 (pos : Int), bv, dv]
  bl : ∃ kvs : List (Value × Value), kvs.length = bs.length ∧ w.ownsRow 0 tBl 9 bv bs.length (rowBl bs kvs) ∧ ∀ (j : Nat) x kv, bs[j]? = some x → kvs[j]? = some kv → Forest w F kv.1 x.spans ∧ RowsF w F kv.2 x.rows
  dg : w.ownsRow 0 tDg 4 dv ds.length (rowD ds)
  oR : O rb
  oB : ∀ k, bv.ownBlock = some k → O k ∧ k ≠ rb
  oD : ∀ k, dv.ownBlock = some k → O k ∧ k ≠ rb ∧ bv.ownBlock ≠ some k
  off : ∀ k, F k → ¬ O k
  ltO : ∀ k, O k → k < w.heap.size
  ltF : ∀ k, F k → k < w.heap.size
/-- what turns, and what comes to be whose -/
structure Turn (w w' : World) (O F O' F' : Nat → Prop) : Prop where
  chg : Chg w w' O
  inO : ∀ k, O' k → O k ∨ w.heap.size ≤ k
  inF : ∀ k, F' k → F k ∨ w.heap.size ≤ k
  moF : ∀ k, F k → F' k
theorem Turn.refl (w : World) (O F : Nat → Prop) : Turn w w O F O F := ⟨Chg.refl _ _, fun _ h => .inl h, fun _ h => .inl h, fun _ h => h⟩
theorem Turn.trans {w w1 w2 : World} {O F O1 F1 O2 F2 : Nat → Prop} (h : Turn w w1 O F O1 F1) (k : Turn w1 w2 O1 F1 O2 F2) : Turn w w2 O F O2 F2 := by
  have hs := h.chg.size
  refine ⟨h.chg.trans k.chg (fun b hb hO => ?_), fun b hb => ?_, fun b hb => ?_, fun b hb => k.moF b (h.moF b hb)⟩
  · rcases h.inO b hO with h1 | h1
    · exact h1
    · omega
  · rcases k.inO b hb with h1 | h1
    · exact h.inO b h1
    · exact .inr (by omega)
  · rcases k.inF b hb with h1 | h1
    · exact h.inF b h1
    · exact .inr (by omega)
section
variable {w w' : World} {O F O' F' S : Nat → Prop} {rb : Nat} {lv : Value} {pos : Nat} {bv : Value} {bs : List Bl} {dv : Value} {ds : List Dg}
theorem Rdr.chg (h : Rdr w O F rb lv pos bv bs dv ds) (hc : Chg w w' S) (hO : ∀ k, O k → ¬ S k) (hF : ∀ k, F k → ¬ S k) : Rdr w' O F rb lv pos bv bs dv ds := by
  obtain ⟨kvs, h1, h2, h3⟩ := h.bl
  exact ⟨hc.holds (hO _ h.oR) h.hold, ⟨kvs, h1, hc.owns h2 (fun k hk => hO k (h.oB k hk).1), fun j x kv hx hk => ⟨(h3 j x kv hx hk).1.chg hc (fun _ h => h) hF, RowsF.stays.go (h3 j x kv hx hk).2 hc (fun _ h => h) hF⟩⟩,
    hc.owns h.dg (fun k hk => hO k (h.oD k hk).1), h.oR, h.oB, h.oD, h.off, fun k hk => Nat.lt_of_lt_of_le (h.ltO k hk) hc.size, fun k hk => Nat.lt_of_lt_of_le (h.ltF k hk) hc.size⟩
theorem Rdr.below (h : Rdr w O F rb lv pos bv bs dv ds) (hb : Below w.heap.size w w') : Rdr w' O F rb lv pos bv bs dv ds := h.chg (Chg.below hb (fun _ => False)) (fun _ _ h => h) (fun _ _ h => h)
/-- more trees -/
theorem Rdr.more (h : Rdr w O F rb lv pos bv bs dv ds) (hF : ∀ k, F k → F' k) (ho : ∀ k, F' k → ¬ O k) (hl : ∀ k, F' k → k < w.heap.size) : Rdr w O F' rb lv pos bv bs dv ds := by
  obtain ⟨kvs, h1, h2, h3⟩ := h.bl
  exact ⟨h.hold, ⟨kvs, h1, h2, fun j x kv hx hk => ⟨(h3 j x kv hx hk).1.chg (Chg.refl w (fun _ => False)) hF (fun _ _ h => h), RowsF.stays.go (h3 j x kv hx hk).2 (Chg.refl w (fun _ => False)) hF (fun _ _ h => h)⟩⟩, h.dg, h.oR, h.oB, h.oD, ho, h.ltO, hl⟩
/-- one more diagnostic -/
theorem Rdr.told (h : Rdr w O F rb lv pos bv bs dv ds) {dv' : Value} {d : Dg} (hc : Chg w w' (fun k => k = rb ∨ dv.ownBlock = some k)) (hh : Holds w' rb tR #[lv, .int .i64 (pos : Int), bv, dv']) (ho : w'.ownsRow 0 tDg 4 dv' (ds.length + 1) (rowD ds ++ dgCells d))
    (hn : ∀ k, dv'.ownBlock = some k → (dv.ownBlock = some k ∨ w.heap.size ≤ k) ∧ k < w'.heap.size) : Rdr w' (fun k => O k ∨ dv'.ownBlock = some k) F rb lv pos bv bs dv' (ds ++ [d]) ∧ Turn w w' O F (fun k => O k ∨ dv'.ownBlock = some k) F := by
  obtain ⟨kvs, h1, h2, h3⟩ := h.bl
  have hS : ∀ k, (k = rb ∨ dv.ownBlock = some k) → O k := fun k hk => by
    rcases hk with rfl | hk
    · exact h.oR
    · exact (h.oD k hk).1
  have hF : ∀ k, F k → ¬ (k = rb ∨ dv.ownBlock = some k) := fun k hk hs => h.off k hk (hS k hs)
  refine ⟨⟨hh, ⟨kvs, h1, hc.owns h2 (fun k hk hs => ?_), fun j x kv hx hk => ⟨(h3 j x kv hx hk).1.chg hc (fun _ h => h) hF, RowsF.stays.go (h3 j x kv hx hk).2 hc (fun _ h => h) hF⟩⟩, ?_, .inl h.oR, fun k hk => ⟨.inl (h.oB k hk).1, (h.oB k hk).2⟩, fun k hk => ⟨.inr hk, ?_, ?_⟩, fun k hk hs => ?_, fun k hk => ?_, fun k hk => Nat.lt_of_lt_of_le (h.ltF k hk) hc.size⟩,
    ⟨hc.mono (fun k _ hk => hS k hk), fun k hk => ?_, fun k hk => .inl hk, fun k hk => hk⟩⟩
  · rcases hs with hs | hs
    · exact (h.oB k hk).2 hs
    · exact (h.oD k hs).2.2 hk
  · rw [List.length_append, rowD_append]
    simpa [rowD] using ho
  · rcases (hn k hk).1 with h4 | h4
    · exact (h.oD k h4).2.1
    · intro e; have := h.ltO rb h.oR; omega
  · rcases (hn k hk).1 with h4 | h4
    · exact (h.oD k h4).2.2
    · intro e; have := h.ltO k (h.oB k e).1; omega
  · rcases hs with hs | hs
    · exact h.off k hk hs
    · rcases (hn k hs).1 with h4 | h4
      · exact h.off k hk (h.oD k h4).1
      · have := h.ltF k hk; omega
  · rcases hk with hk | hk
    · exact Nat.lt_of_lt_of_le (h.ltO k hk) hc.size
    · exact (hn k hk).2
  · rcases hk with hk | hk
    · exact .inl hk
    · rcases (hn k hk).1 with h4 | h4
      · exact .inl (h.oD k h4).1
      · exact .inr h4
/-- one more block -/
theorem Rdr.added (h : Rdr w O F rb lv pos bv bs dv ds) {bv' : Value} {x : Bl} {kv : Value × Value} (hx : Forest w F kv.1 x.spans ∧ RowsF w F kv.2 x.rows) (hc : Chg w w' (fun k => k = rb ∨ bv.ownBlock = some k)) (hh : Holds w' rb tR #[lv, .int .i64 (pos : Int), bv', dv])
    (kvs : List (Value × Value)) (h1 : kvs.length = bs.length) (h3 : ∀ (j : Nat) x kv, bs[j]? = some x → kvs[j]? = some kv → Forest w F kv.1 x.spans ∧ RowsF w F kv.2 x.rows) (ho2 : w'.ownsRow 0 tBl 9 bv' (bs.length + 1) (rowBl bs kvs ++ blCells x kv))
    (hn : ∀ k, bv'.ownBlock = some k → (bv.ownBlock = some k ∨ w.heap.size ≤ k) ∧ k < w'.heap.size) : Rdr w' (fun k => O k ∨ bv'.ownBlock = some k) F rb lv pos bv' (bs ++ [x]) dv ds ∧ Turn w w' O F (fun k => O k ∨ bv'.ownBlock = some k) F := by
  have hS : ∀ k, (k = rb ∨ bv.ownBlock = some k) → O k := fun k hk => by
    rcases hk with rfl | hk
    · exact h.oR
    · exact (h.oB k hk).1
  have hF : ∀ k, F k → ¬ (k = rb ∨ bv.ownBlock = some k) := fun k hk hs => h.off k hk (hS k hs)
  refine ⟨⟨hh, ⟨kvs ++ [kv], by simp [h1], by rw [List.length_append, rowBl_snoc x kv h1]; exact ho2, fun j y ku hy hku => ?_⟩, hc.owns h.dg (fun k hk hs => ?_), .inl h.oR, fun k hk => ⟨.inr hk, ?_⟩, fun k hk => ⟨.inl (h.oD k hk).1, (h.oD k hk).2.1, fun e => ?_⟩, fun k hk hs => ?_, fun k hk => ?_, fun k hk => Nat.lt_of_lt_of_le (h.ltF k hk) hc.size⟩,
    ⟨hc.mono (fun k _ hk => hS k hk), fun k hk => ?_, fun k hk => .inl hk, fun k hk => hk⟩⟩
  · by_cases hj : j < bs.length
    · rw [List.getElem?_append_left hj] at hy
      rw [List.getElem?_append_left (by omega)] at hku
      exact ⟨(h3 j y ku hy hku).1.chg hc (fun _ h => h) hF, RowsF.stays.go (h3 j y ku hy hku).2 hc (fun _ h => h) hF⟩
    · have hj2 : j = bs.length := by have := (List.getElem?_eq_some_iff.1 hy).1; simp at this; omega
      subst hj2
      rw [List.getElem?_append_right (Nat.le_refl _), Nat.sub_self] at hy
      rw [List.getElem?_append_right (by omega), h1, Nat.sub_self] at hku
      cases hy; cases hku
      exact ⟨hx.1.chg hc (fun _ h => h) hF, RowsF.stays.go hx.2 hc (fun _ h => h) hF⟩
  · rcases hs with hs | hs
    · exact (h.oD k hk).2.1 hs
    · exact (h.oD k hk).2.2 hs
  · rcases (hn k hk).1 with h4 | h4
    · exact (h.oB k h4).2
    · intro e; have := h.ltO rb h.oR; omega
  · rcases (hn k e).1 with h4 | h4
    · exact (h.oD k hk).2.2 h4
    · have := h.ltO k (h.oD k hk).1; omega
  · rcases hs with hs | hs
    · exact h.off k hk hs
    · rcases (hn k hs).1 with h4 | h4
      · exact h.off k hk (h.oB k h4).1
      · have := h.ltF k hk; omega
  · rcases hk with hk | hk
    · exact Nat.lt_of_lt_of_le (h.ltO k hk) hc.size
    · exact (hn k hk).2
  · rcases hk with hk | hk
    · exact .inl hk
    · rcases (hn k hk).1 with h4 | h4
      · exact .inl (h.oB k h4).1
      · exact .inr h4
end
end Go.Bd
