/-
  What the chapter's laws share, part 4: plain facts, memory, and walks of functions. Its conditions: those that each theorem names.
-/
import Derived.Test.YtmdbhdhfdldegaaGreatDoorSort
import Derived.Test.YtmdbhdhfdldegaaGreatDoorShelf
import Derived.Shelf.Strings.BuilderF
import Derived.Shelf.Strings.BuilderK
import Derived.Test.YtmdbhdhfdldegaaGreatDoorK3
set_option linter.unusedSimpArgs false
set_option linter.unusedVariables false
namespace Go.Bd
theorem isB {c d : UInt8} {k : Int} (hk : (d.toNat : Int) = k) (h : c = d) : ((c.toNat : Int) == k) = true := by subst h; rw [hk]; simp
theorem neB {c d : UInt8} {k : Int} (hk : (d.toNat : Int) = k) (h : c ≠ d) : ((c.toNat : Int) == k) = false := by
  rw [beq_eq_false_iff_ne, ← hk]
  intro e
  exact h (UInt8.toNat_inj.1 (by omega))
theorem pre_hasPrefix (s p : Bs) : Lib.hasPrefix s p = p.isPrefixOf s := by first | rfl | simp [Lib.hasPrefix] | (unfold Lib.hasPrefix; rfl)
end Go.Bd
namespace Go.Proofs.YtmdbhdhfdldegaaGreatDoor
open Go.RowKit Go.Bd
section
variable {w : World} {B : Nat} {col : Nat → Nat} {pb ob cap len : Nat} {s : ByteArray} {st : Pst} {i : Nat} {fv : Value} {gb : Nat} {cs : Array Value} {gn : List Bs}
def StepPost (B pb : Nat) (s : ByteArray) (gb : Nat) (w : World) (col : Nat → Nat) (st' : Pst) (j : Nat) (w' : World) : Prop :=
  ∃ col' ob' cap' fv' cs' gn', PSx Tryz.prog w' B col' pb ob' cap' st'.fs.length s st' j fv' gb cs' gn' ∧ Stay B w w' col col'
theorem between_any (h : PSx Tryz.prog w B col pb ob cap len s st i fv gb cs gn) (hl : len = st.fs.length) (hI : Inv st i) (a b : ByteArray) (ha : 1 ≤ a.size) (ha2 : a.size ≤ 2) (hb0 : 1 ≤ b.size) (hb : b.size ≤ 2) (hi : i + a.size ≤ s.size) (hs : s.size ≤ 100000) (F : Nat) (m : Int) (hm : w.cell? ⟨0, 0, none⟩ = some (.int .i64 m)) (hB : 0 < B)
    {af : Bs → Sp ⊕ Nat} (hF : AsOk F af) (has : af = codeS ∨ af = refS ∨ af = termS) :
    Calls Tryz.prog 49 #[.pointer (some ⟨pb, 0, none⟩), .int .i64 (i : Int), .string a, .string b, .func (.func F) #[] #[]] w fun e w' => e = .returned (.int .i64 ((st.between s.data.toList i a.data.toList b.data.toList af).2 : Nat)) ∧
      StepPost B pb s gb w col (st.between s.data.toList i a.data.toList b.data.toList af).1 (st.between s.data.toList i a.data.toList b.data.toList af).2 w' := by
  have la : a.data.toList.length = a.size := by simp
  have lb : b.data.toList.length = b.size := by simp
  have ls : s.data.toList.length = s.size := by simp
  unfold Pst.between
  rw [la, lb]
  cases hn : nextAt s.data.toList (i + a.size) b.data.toList with
  | none =>
    refine (between_none h hl hI a b ha ha2 hb hi hs F m hm hn).mono ?_
    rintro e w' ⟨rfl, col', fv', cs', gn', h1, h2⟩
    exact ⟨rfl, col', ob, cap, fv', cs', gn', by rw [show (((st.write a.data.toList).tell i 7 : Pst)).fs.length = len by rw [tellLen, writeLen, hl]]; exact h1, h2⟩
  | some n =>
    obtain ⟨n1, n2⟩ := nextAt_some (by omega) hn
    rw [lb, ls] at n2
    simp only
    cases haf : af ((s.data.toList.drop (i + a.size)).take (n - (i + a.size))) with
    | inr fc =>
      have hfc : 1 ≤ fc := by rcases as_fault has haf with h | h | h <;> omega
      refine (between_bad h hl hI a b ha ha2 hb hi hs F m hm hB hn n2 hF haf hfc).mono ?_
      rintro e w' ⟨rfl, col', fv', cs', gn', h1, h2⟩
      exact ⟨rfl, col', ob, cap, fv', cs', gn', by rw [show (((st.write ((s.data.toList.drop i).take (n + b.size - i))).tell i fc : Pst)).fs.length = len by rw [tellLen, writeLen, hl]]; exact h1, h2⟩
    | inl x =>
      obtain ⟨_, p2, p3, _⟩ := as_wt has haf
      refine (between_good h hl hI a b ha ha2 hb hi hs F m hm hB hn n2 hF haf p3 (fun h => absurd h p2)).mono ?_
      rintro e w' ⟨rfl, col', fv', cs', gn', h1, h2⟩
      exact ⟨rfl, col', ob, cap, fv', cs', gn', by rw [show ((st.top (·.add x) : Pst)).fs.length = len by rw [hl]; exact onTop_length (·.add x) st.fs]; exact h1, h2⟩
theorem rest_list (s : ByteArray) (i : Nat) : (s.extract i s.size).data.toList = s.data.toList.drop i := by
  rw [cut_list, List.take_of_length_le (by simp)]
theorem rest_get {s : ByteArray} {i : Nat} (j : Nat) (h : j < (s.extract i s.size).size) : (s.extract i s.size)[j] = s.data.toList.getD (i + j) 0 := by
  have e : (s.extract i s.size)[j] = (s.extract i s.size).data.toList[j]'(by simpa using h) := by first | rfl | simp [ByteArray.getElem_eq_getElem_data]
  rw [e, List.getD_eq_getElem?_getD]
  simp only [rest_list, List.getElem_drop]
  rw [List.getElem?_eq_getElem]
  rfl
set_option maxRecDepth 100000 in
set_option maxHeartbeats 2000000 in
theorem step_esc (h : PSx Tryz.prog w B col pb ob cap len s st i fv gb cs gn) (hl : len = st.fs.length) (hI : Inv st i) (hi : i < s.size) (hs : s.size ≤ 100000) (m : Int) (hm : w.cell? ⟨0, 0, none⟩ = some (.int .i64 m)) (hB : 0 < B) (hc : s.data.toList.getD i 0 = 92) (hn : i + 1 < s.size) (he : escB (s.data.toList.getD (i + 1) 0) = true) :
    Calls Tryz.prog 26 #[.pointer (some ⟨pb, 0, none⟩), .int .i64 (i : Int)] w fun e w' => e = .returned (.int .i64 ((i + 2 : Nat) : Int)) ∧ StepPost B pb s gb w col (st.write [s.data.toList.getD (i + 1) 0]) (i + 2) w' := by
  have h17 := hI.2.2.2
  have h1 := hI.2.2.1
  have c0 := h.hp.cell 0
  obtain ⟨f, r, hfs⟩ : ∃ f r, st.fs = f :: r := by
    match hq : st.fs, hI.2.2.1 with
    | f :: r, _ => exact ⟨f, r, rfl⟩
    | [], hq2 => simp at hq2
  have hftx : f.row.tx.length ≤ 100000 := by
    have := hI.1
    rw [hfs, wtFs_cons] at this
    unfold wtF wtR at this
    omega
  have hflt : st.faults.length ≤ 10000000 := by have := hI.2.1; omega
  have HLR : Hid (len = r.length + 1) := by unfold Hid; rw [hl, hfs]; rfl
  have hr17 : r.length ≤ 17 := by have := HLR.out; omega
  have rz : (s.extract i s.size).size = s.size - i := by simp
  have rz1 : 0 < (s.extract i s.size).size := by omega
  have rz2 : (s.extract i s.size).size ≤ 100000 := by omega
  have G0 : Hid ((s.extract i s.size)[0]'rz1 = s.data.toList.getD i 0) := rest_get (s := s) (i := i) 0 rz1
  have RL := Lib.hid (rest_list s i)
  have q92 : ((((s.extract i s.size)[0]'rz1).toNat : Int) == 92) = true := by
    rw [G0.out]; exact isB (d := 92) rfl hc
  have rz3 : 1 < (s.extract i s.size).size := by omega
  have e1 : IntKind.i64.wrap ((i : Int) + 2) = ((i + 2 : Nat) : Int) := by rw [show (i : Int) + 2 = ((i + 2 : Nat) : Int) by omega]; exact IntWalk.i64_in _ (by omega)
  have ce : ∀ w, Calls Tryz.prog 23 #[.int .u8 (((s.extract i s.size)[1]'rz3).toNat : Int)] w fun e w' => e = .returned (.bool true) ∧ w = w' := fun w => by
    have := escaped_any ((s.extract i s.size)[1]'rz3) w
    rw [rest_get 1 rz3, he] at this
    rw [rest_get 1 rz3]
    exact this
  have RX : Hid (((s.extract i s.size).extract 1 2).data.toList = [s.data.toList.getD (i + 1) 0]) := by
    unfold Hid
    rw [cut_list, rest_list, List.drop_drop]
    have hlt : i + 1 < s.data.toList.length := by simpa using hn
    rw [List.drop_eq_getElem_cons hlt, List.getD_eq_getElem?_getD, List.getElem?_eq_getElem hlt]
    rfl
  have C0 := Lib.hid c0
  have H := Lib.hid h
  have HPD := Lib.hid (fun k => PSx.drewN h k)
  have HFS := Lib.hid hfs
  have HL := Lib.hid hl
  clear hc he hm hI h1 h17 h hl hfs G0 RL
  obtain ⟨R, hR⟩ : ∃ R, s.extract i s.size = R := ⟨_, rfl⟩
  rw [hR] at rz
  have RZ := Lib.hid rz
  clear rz
  simp only [hR] at rz1 rz2 rz3 q92 ce RX
  have rz4 : (2 : Int) ≤ (R.size : Int) := by omega
  go_enter Tryz.func26, Tryz.ntmps26
  go_wp2_with (first
    | (go_at_call 23; refine (ce _).mono ?_; rintro e w' ⟨rfl, rfl⟩)
    | fail)
  refine wp_region_held_drew (S := (fun w' => w'.cell? ⟨pb, 0, none⟩ = some (.string s))) (by kernel_rfl) ?_ (fun hHeld0 => ?_)
  · (try dsimp only)
    first | exact C0.out | exact z0
  refine wpAnyH_take (i := 0) (v := ?_) rfl (by kernel_rfl) (by kernel_rfl) (by kernel_rfl) (fun _ _ _ h => h) (Or.inl ⟨by kernel_rfl, ?_⟩) (by assumption) ?_
  rotate_left
  · (intro w hSw; (try dsimp only at hSw); go_simp; (first | done | with_reducible rfl))
  (try simp only [Act.put, List.setIfInBounds_toArray, List.set_cons_zero, List.set_cons_succ])
  refine wpAnyH_take (i := 4) (v := ?_) rfl (by kernel_rfl) (by kernel_rfl) (by kernel_rfl) (fun _ _ _ h => h) (Or.inl ⟨by kernel_rfl, ?_⟩) (by assumption) ?_
  rotate_left
  · (intro w hSw; (try dsimp only at hSw); go_simp; (first | done | with_reducible rfl))
  (try simp only [Act.put, List.setIfInBounds_toArray, List.set_cons_zero, List.set_cons_succ])
  refine wpAnyH_take (i := 5) (v := ?_) rfl (by kernel_rfl) (by kernel_rfl) (by kernel_rfl) (fun _ _ _ h => h) (Or.inl ⟨by kernel_rfl, ?_⟩) (by assumption) ?_
  rotate_left
  · (intro w hSw; (try dsimp only at hSw); go_simp; (first | done | with_reducible rfl))
  (try simp only [Act.put, List.setIfInBounds_toArray, List.set_cons_zero, List.set_cons_succ])
  refine wpAnyH_ready (rs := [1]) (by kernel_rfl) (by simp) ?_
  refine AllReadyH.cons rfl (fun K hK => ?_) AllReadyH.nil
  go_simp
  refine (top_any (n := r.length) (by rw [← HLR.out]; exact HPD.out _) (by omega)).mono ?_
  rintro e w3 ⟨rfl, kk, rfl⟩
  go_wp2_with fail
  refine hK.out _ _ ?_ (fun hHeld1 => ?_)
  · (try dsimp only)
    first | exact C0.out | exact z0
  clear hK K hHeld0
  (try simp only [Act.put, List.setIfInBounds_toArray, List.set_cons_zero, List.set_cons_succ])
  refine wpAnyH_take (i := 2) (v := ?_) rfl (by kernel_rfl) (by kernel_rfl) (by kernel_rfl) (fun _ _ _ h => h) (Or.inl ⟨by kernel_rfl, ?_⟩) (by assumption) ?_
  rotate_left
  · (intro w hSw; (try dsimp only at hSw); go_simp; (first | done | with_reducible rfl))
  (try simp only [Act.put, List.setIfInBounds_toArray, List.set_cons_zero, List.set_cons_succ])
  refine wpAnyH_take (i := 3) (v := ?_) rfl (by kernel_rfl) (by kernel_rfl) (by kernel_rfl) (fun _ _ _ h => h) (Or.inl ⟨by kernel_rfl, ?_⟩) (by assumption) ?_
  rotate_left
  · (intro w hSw; (try dsimp only at hSw); go_simp; (first | done | with_reducible rfl))
  (try simp only [Act.put, List.setIfInBounds_toArray, List.set_cons_zero, List.set_cons_succ])
  refine wpAnyH_ready (rs := [6]) (by kernel_rfl) (by simp) ?_
  refine AllReadyH.cons rfl (fun K hK => ?_) AllReadyH.nil
  go_simp
  refine (writeTop_any (HPD.out _) HFS.out (R.extract 1 2) (by simp; omega) (by omega)).mono ?_
  rintro e w4 ⟨rfl, col4, cs4, h4, st4⟩
  have st5 := st4.undrew
  have H4 := Lib.hid h4
  have ST4 := Lib.hid st5
  have z0 := h4.hp.cell 0
  clear h4 st4 st5
  go_wp2_with fail
  refine hK.out _ _ ?_ (fun hHeld2 => ?_)
  · (try dsimp only)
    first | exact C0.out | exact z0
  clear hK K hHeld1
  (try simp only [Act.put, List.setIfInBounds_toArray, List.set_cons_zero, List.set_cons_succ])
  refine wpAnyH_done (by kernel_rfl) ?_ _
  go_wp2
  go_ret
  refine ⟨rfl, col4, ob, cap, fv, cs4, gn, ?_, ST4.out⟩
  have e : (R.extract 1 2).data.toList = [s.data.toList.getD (i + 1) 0] := RX.out
  have H5 := H4.out
  rw [e] at H5
  rw [writeLen, ← HL.out]
  exact H5.on (by omega)
set_option maxRecDepth 100000 in
set_option maxHeartbeats 2000000 in
theorem step_code (h : PSx Tryz.prog w B col pb ob cap len s st i fv gb cs gn) (hl : len = st.fs.length) (hI : Inv st i) (hi : i < s.size) (hs : s.size ≤ 100000) (m : Int) (hm : w.cell? ⟨0, 0, none⟩ = some (.int .i64 m)) (hB : 0 < B) (hc : s.data.toList.getD i 0 = 96) :
    Calls Tryz.prog 26 #[.pointer (some ⟨pb, 0, none⟩), .int .i64 (i : Int)] w fun e w' => e = .returned (.int .i64 (((st.between s.data.toList i [96] [96] codeS).2 : Nat) : Int)) ∧ StepPost B pb s gb w col (st.between s.data.toList i [96] [96] codeS).1 ((st.between s.data.toList i [96] [96] codeS).2) w' := by
  have h17 := hI.2.2.2
  have h1 := hI.2.2.1
  have c0 := h.hp.cell 0
  obtain ⟨f, r, hfs⟩ : ∃ f r, st.fs = f :: r := by
    match hq : st.fs, hI.2.2.1 with
    | f :: r, _ => exact ⟨f, r, rfl⟩
    | [], hq2 => simp at hq2
  have hftx : f.row.tx.length ≤ 100000 := by
    have := hI.1
    rw [hfs, wtFs_cons] at this
    unfold wtF wtR at this
    omega
  have hflt : st.faults.length ≤ 10000000 := by have := hI.2.1; omega
  have HLR : Hid (len = r.length + 1) := by unfold Hid; rw [hl, hfs]; rfl
  have hr17 : r.length ≤ 17 := by have := HLR.out; omega
  have rz : (s.extract i s.size).size = s.size - i := by simp
  have rz1 : 0 < (s.extract i s.size).size := by omega
  have rz2 : (s.extract i s.size).size ≤ 100000 := by omega
  have G0 : Hid ((s.extract i s.size)[0]'rz1 = s.data.toList.getD i 0) := rest_get (s := s) (i := i) 0 rz1
  have RL := Lib.hid (rest_list s i)
  have q92 : ((((s.extract i s.size)[0]'rz1).toNat : Int) == 92) = false := by
    rw [G0.out]; exact neB (d := 92) rfl (by rw [hc]; decide)
  have q96 : ((((s.extract i s.size)[0]'rz1).toNat : Int) == 96) = true := by
    rw [G0.out]; exact isB (d := 96) rfl hc
  have cb : Calls Tryz.prog 49 #[.pointer (some ⟨pb, 0, none⟩), .int .i64 (i : Int), .string ⟨#[96]⟩, .string ⟨#[96]⟩, .func (.func 50) #[] #[]] w fun e w' => e = .returned (.int .i64 ((st.between s.data.toList i [96] [96] codeS).2 : Nat)) ∧ StepPost B pb s gb w col (st.between s.data.toList i [96] [96] codeS).1 (st.between s.data.toList i [96] [96] codeS).2 w' :=
    between_any h hl hI ⟨#[96]⟩ ⟨#[96]⟩ (by decide) (by decide) (by decide) (by decide) (by show i + 1 ≤ s.size; omega) hs _ m hm hB code_any (.inl rfl)
  have C0 := Lib.hid c0
  have H := Lib.hid h
  have HPD := Lib.hid (fun k => PSx.drewN h k)
  have HFS := Lib.hid hfs
  have HL := Lib.hid hl
  have HI := Lib.hid hI
  generalize st.between s.data.toList i [96] [96] codeS = bt at cb
  clear hc hm hI h1 h17 h hl hfs G0 RL
  obtain ⟨R, hR⟩ : ∃ R, s.extract i s.size = R := ⟨_, rfl⟩
  rw [hR] at rz
  have RZ := Lib.hid rz
  clear rz
  simp only [hR] at rz1 rz2 q92 q96
  go_enter Tryz.func26, Tryz.ntmps26
  go_wp2_with (first
    | (go_at_call 49; refine cb.mono ?_; rintro e w' ⟨rfl, hpost⟩)
    | fail)
  go_ret
  exact ⟨rfl, hpost⟩
set_option maxRecDepth 100000 in
set_option maxHeartbeats 2000000 in
theorem step_ref (h : PSx Tryz.prog w B col pb ob cap len s st i fv gb cs gn) (hl : len = st.fs.length) (hI : Inv st i) (hi : i < s.size) (hs : s.size ≤ 100000) (m : Int) (hm : w.cell? ⟨0, 0, none⟩ = some (.int .i64 m)) (hB : 0 < B) (hc : s.data.toList.getD i 0 = 60) (hp : [60, 60].isPrefixOf (s.data.toList.drop i) = true) :
    Calls Tryz.prog 26 #[.pointer (some ⟨pb, 0, none⟩), .int .i64 (i : Int)] w fun e w' => e = .returned (.int .i64 (((st.between s.data.toList i [60, 60] [62, 62] refS).2 : Nat) : Int)) ∧ StepPost B pb s gb w col (st.between s.data.toList i [60, 60] [62, 62] refS).1 ((st.between s.data.toList i [60, 60] [62, 62] refS).2) w' := by
  have h17 := hI.2.2.2
  have h1 := hI.2.2.1
  have c0 := h.hp.cell 0
  obtain ⟨f, r, hfs⟩ : ∃ f r, st.fs = f :: r := by
    match hq : st.fs, hI.2.2.1 with
    | f :: r, _ => exact ⟨f, r, rfl⟩
    | [], hq2 => simp at hq2
  have hftx : f.row.tx.length ≤ 100000 := by
    have := hI.1
    rw [hfs, wtFs_cons] at this
    unfold wtF wtR at this
    omega
  have hflt : st.faults.length ≤ 10000000 := by have := hI.2.1; omega
  have HLR : Hid (len = r.length + 1) := by unfold Hid; rw [hl, hfs]; rfl
  have hr17 : r.length ≤ 17 := by have := HLR.out; omega
  have rz : (s.extract i s.size).size = s.size - i := by simp
  have rz1 : 0 < (s.extract i s.size).size := by omega
  have rz2 : (s.extract i s.size).size ≤ 100000 := by omega
  have G0 : Hid ((s.extract i s.size)[0]'rz1 = s.data.toList.getD i 0) := rest_get (s := s) (i := i) 0 rz1
  have RL := Lib.hid (rest_list s i)
  have q92 : ((((s.extract i s.size)[0]'rz1).toNat : Int) == 92) = false := by
    rw [G0.out]; exact neB (d := 92) rfl (by rw [hc]; decide)
  have q96 : ((((s.extract i s.size)[0]'rz1).toNat : Int) == 96) = false := by
    rw [G0.out]; exact neB (d := 96) rfl (by rw [hc]; decide)
  have p60 : ∀ w, Calls Tryz.prog 51 #[.string (s.extract i s.size), .string ⟨#[60, 60]⟩] w fun e w' => e = .returned (.bool true) ∧ w' = w := fun w => by
    have := Tryz.strings_HasPrefix (s.extract i s.size) ⟨#[60, 60]⟩ w
    rw [pre_hasPrefix, RL.out, show (ByteArray.mk #[60, 60]).data.toList = [60, 60] from rfl, hp] at this
    exact this
  have cb : Calls Tryz.prog 49 #[.pointer (some ⟨pb, 0, none⟩), .int .i64 (i : Int), .string ⟨#[60, 60]⟩, .string ⟨#[62, 62]⟩, .func (.func 52) #[] #[]] w fun e w' => e = .returned (.int .i64 ((st.between s.data.toList i [60, 60] [62, 62] refS).2 : Nat)) ∧ StepPost B pb s gb w col (st.between s.data.toList i [60, 60] [62, 62] refS).1 (st.between s.data.toList i [60, 60] [62, 62] refS).2 w' :=
    between_any h hl hI ⟨#[60, 60]⟩ ⟨#[62, 62]⟩ (by decide) (by decide) (by decide) (by decide) (by have := prefix_two hp; simp at this; show i + 2 ≤ s.size; omega) hs _ m hm hB ref_any (.inr (.inl rfl))
  have C0 := Lib.hid c0
  have H := Lib.hid h
  have HPD := Lib.hid (fun k => PSx.drewN h k)
  have HFS := Lib.hid hfs
  have HL := Lib.hid hl
  have HI := Lib.hid hI
  generalize st.between s.data.toList i [60, 60] [62, 62] refS = bt at cb
  clear hc hm hI h1 h17 h hl hfs G0 RL
  obtain ⟨R, hR⟩ : ∃ R, s.extract i s.size = R := ⟨_, rfl⟩
  rw [hR] at rz
  have RZ := Lib.hid rz
  clear rz
  simp only [hR] at rz1 rz2 q92 q96 p60
  go_enter Tryz.func26, Tryz.ntmps26
  go_wp2_with (first
    | (go_at_call 51; (with_reducible refine (p60 _).mono ?_); rintro e w' ⟨rfl, rfl⟩)
    | (go_at_call 49; refine cb.mono ?_; rintro e w' ⟨rfl, hpost⟩)
    | fail)
  go_ret
  exact ⟨rfl, hpost⟩
set_option maxRecDepth 100000 in
set_option maxHeartbeats 2000000 in
theorem step_term (h : PSx Tryz.prog w B col pb ob cap len s st i fv gb cs gn) (hl : len = st.fs.length) (hI : Inv st i) (hi : i < s.size) (hs : s.size ≤ 100000) (m : Int) (hm : w.cell? ⟨0, 0, none⟩ = some (.int .i64 m)) (hB : 0 < B) (hc : s.data.toList.getD i 0 = 40) (hp : [40, 40].isPrefixOf (s.data.toList.drop i) = true) :
    Calls Tryz.prog 26 #[.pointer (some ⟨pb, 0, none⟩), .int .i64 (i : Int)] w fun e w' => e = .returned (.int .i64 (((st.between s.data.toList i [40, 40] [41, 41] termS).2 : Nat) : Int)) ∧ StepPost B pb s gb w col (st.between s.data.toList i [40, 40] [41, 41] termS).1 ((st.between s.data.toList i [40, 40] [41, 41] termS).2) w' := by
  have h17 := hI.2.2.2
  have h1 := hI.2.2.1
  have c0 := h.hp.cell 0
  obtain ⟨f, r, hfs⟩ : ∃ f r, st.fs = f :: r := by
    match hq : st.fs, hI.2.2.1 with
    | f :: r, _ => exact ⟨f, r, rfl⟩
    | [], hq2 => simp at hq2
  have hftx : f.row.tx.length ≤ 100000 := by
    have := hI.1
    rw [hfs, wtFs_cons] at this
    unfold wtF wtR at this
    omega
  have hflt : st.faults.length ≤ 10000000 := by have := hI.2.1; omega
  have HLR : Hid (len = r.length + 1) := by unfold Hid; rw [hl, hfs]; rfl
  have hr17 : r.length ≤ 17 := by have := HLR.out; omega
  have rz : (s.extract i s.size).size = s.size - i := by simp
  have rz1 : 0 < (s.extract i s.size).size := by omega
  have rz2 : (s.extract i s.size).size ≤ 100000 := by omega
  have G0 : Hid ((s.extract i s.size)[0]'rz1 = s.data.toList.getD i 0) := rest_get (s := s) (i := i) 0 rz1
  have RL := Lib.hid (rest_list s i)
  have q92 : ((((s.extract i s.size)[0]'rz1).toNat : Int) == 92) = false := by
    rw [G0.out]; exact neB (d := 92) rfl (by rw [hc]; decide)
  have q96 : ((((s.extract i s.size)[0]'rz1).toNat : Int) == 96) = false := by
    rw [G0.out]; exact neB (d := 96) rfl (by rw [hc]; decide)
  have p60 : ∀ w, Calls Tryz.prog 51 #[.string (s.extract i s.size), .string ⟨#[60, 60]⟩] w fun e w' => e = .returned (.bool false) ∧ w' = w := fun w => by
    have := Tryz.strings_HasPrefix (s.extract i s.size) ⟨#[60, 60]⟩ w
    rw [pre_hasPrefix, RL.out, show (ByteArray.mk #[60, 60]).data.toList = [60, 60] from rfl, pre_ne (by simpa using hi) (by rw [hc]; decide)] at this
    exact this
  have p40 : ∀ w, Calls Tryz.prog 51 #[.string (s.extract i s.size), .string ⟨#[40, 40]⟩] w fun e w' => e = .returned (.bool true) ∧ w' = w := fun w => by
    have := Tryz.strings_HasPrefix (s.extract i s.size) ⟨#[40, 40]⟩ w
    rw [pre_hasPrefix, RL.out, show (ByteArray.mk #[40, 40]).data.toList = [40, 40] from rfl, hp] at this
    exact this
  have cb : Calls Tryz.prog 49 #[.pointer (some ⟨pb, 0, none⟩), .int .i64 (i : Int), .string ⟨#[40, 40]⟩, .string ⟨#[41, 41]⟩, .func (.func 53) #[] #[]] w fun e w' => e = .returned (.int .i64 ((st.between s.data.toList i [40, 40] [41, 41] termS).2 : Nat)) ∧ StepPost B pb s gb w col (st.between s.data.toList i [40, 40] [41, 41] termS).1 (st.between s.data.toList i [40, 40] [41, 41] termS).2 w' :=
    between_any h hl hI ⟨#[40, 40]⟩ ⟨#[41, 41]⟩ (by decide) (by decide) (by decide) (by decide) (by have := prefix_two hp; simp at this; show i + 2 ≤ s.size; omega) hs _ m hm hB term_any (.inr (.inr rfl))
  have C0 := Lib.hid c0
  have H := Lib.hid h
  have HPD := Lib.hid (fun k => PSx.drewN h k)
  have HFS := Lib.hid hfs
  have HL := Lib.hid hl
  have HI := Lib.hid hI
  generalize st.between s.data.toList i [40, 40] [41, 41] termS = bt at cb
  clear hc hm hI h1 h17 h hl hfs G0 RL
  obtain ⟨R, hR⟩ : ∃ R, s.extract i s.size = R := ⟨_, rfl⟩
  rw [hR] at rz
  have RZ := Lib.hid rz
  clear rz
  simp only [hR] at rz1 rz2 q92 q96 p60 p40
  go_enter Tryz.func26, Tryz.ntmps26
  go_wp2_with (first
    | (go_at_call 51; (with_reducible refine (p60 _).mono ?_); rintro e w' ⟨rfl, rfl⟩)
    | (go_at_call 51; (with_reducible refine (p40 _).mono ?_); rintro e w' ⟨rfl, rfl⟩)
    | (go_at_call 49; refine cb.mono ?_; rintro e w' ⟨rfl, hpost⟩)
    | fail)
  go_ret
  exact ⟨rfl, hpost⟩
set_option maxRecDepth 100000 in
set_option maxHeartbeats 2000000 in
theorem step_note (h : PSx Tryz.prog w B col pb ob cap len s st i fv gb cs gn) (hl : len = st.fs.length) (hI : Inv st i) (hi : i < s.size) (hs : s.size ≤ 100000) (m : Int) (hm : w.cell? ⟨0, 0, none⟩ = some (.int .i64 m)) (hB : 0 < B) (hc : s.data.toList.getD i 0 = 94) (hp : [94, 91].isPrefixOf (s.data.toList.drop i) = true) (hr : st.room = true) :
    Calls Tryz.prog 26 #[.pointer (some ⟨pb, 0, none⟩), .int .i64 (i : Int)] w fun e w' => e = .returned (.int .i64 ((i + 2 : Nat) : Int)) ∧ StepPost B pb s gb w col (st.begin 6 i [94, 91]) (i + 2) w' := by
  have h17 := hI.2.2.2
  have h1 := hI.2.2.1
  have c0 := h.hp.cell 0
  obtain ⟨f, r, hfs⟩ : ∃ f r, st.fs = f :: r := by
    match hq : st.fs, hI.2.2.1 with
    | f :: r, _ => exact ⟨f, r, rfl⟩
    | [], hq2 => simp at hq2
  have hftx : f.row.tx.length ≤ 100000 := by
    have := hI.1
    rw [hfs, wtFs_cons] at this
    unfold wtF wtR at this
    omega
  have hflt : st.faults.length ≤ 10000000 := by have := hI.2.1; omega
  have HLR : Hid (len = r.length + 1) := by unfold Hid; rw [hl, hfs]; rfl
  have hr17 : r.length ≤ 17 := by have := HLR.out; omega
  have rz : (s.extract i s.size).size = s.size - i := by simp
  have rz1 : 0 < (s.extract i s.size).size := by omega
  have rz2 : (s.extract i s.size).size ≤ 100000 := by omega
  have G0 : Hid ((s.extract i s.size)[0]'rz1 = s.data.toList.getD i 0) := rest_get (s := s) (i := i) 0 rz1
  have RL := Lib.hid (rest_list s i)
  have q92 : ((((s.extract i s.size)[0]'rz1).toNat : Int) == 92) = false := by
    rw [G0.out]; exact neB (d := 92) rfl (by rw [hc]; decide)
  have q96 : ((((s.extract i s.size)[0]'rz1).toNat : Int) == 96) = false := by
    rw [G0.out]; exact neB (d := 96) rfl (by rw [hc]; decide)
  have p60 : ∀ w, Calls Tryz.prog 51 #[.string (s.extract i s.size), .string ⟨#[60, 60]⟩] w fun e w' => e = .returned (.bool false) ∧ w' = w := fun w => by
    have := Tryz.strings_HasPrefix (s.extract i s.size) ⟨#[60, 60]⟩ w
    rw [pre_hasPrefix, RL.out, show (ByteArray.mk #[60, 60]).data.toList = [60, 60] from rfl, pre_ne (by simpa using hi) (by rw [hc]; decide)] at this
    exact this
  have p40 : ∀ w, Calls Tryz.prog 51 #[.string (s.extract i s.size), .string ⟨#[40, 40]⟩] w fun e w' => e = .returned (.bool false) ∧ w' = w := fun w => by
    have := Tryz.strings_HasPrefix (s.extract i s.size) ⟨#[40, 40]⟩ w
    rw [pre_hasPrefix, RL.out, show (ByteArray.mk #[40, 40]).data.toList = [40, 40] from rfl, pre_ne (by simpa using hi) (by rw [hc]; decide)] at this
    exact this
  have p94 : ∀ w, Calls Tryz.prog 51 #[.string (s.extract i s.size), .string ⟨#[94, 91]⟩] w fun e w' => e = .returned (.bool true) ∧ w' = w := fun w => by
    have := Tryz.strings_HasPrefix (s.extract i s.size) ⟨#[94, 91]⟩ w
    rw [pre_hasPrefix, RL.out, show (ByteArray.mk #[94, 91]).data.toList = [94, 91] from rfl, hp] at this
    exact this
  have e1 : IntKind.i64.wrap ((i : Int) + 2) = ((i + 2 : Nat) : Int) := by rw [show (i : Int) + 2 = ((i + 2 : Nat) : Int) by omega]; exact IntWalk.i64_in _ (by omega)
  have hin := prefix_two hp
  simp only [Array.length_toList, ByteArray.size_data] at hin
  have cr := room_any h hl (by omega) (by omega)
  rw [hr] at cr
  have C0 := Lib.hid c0
  have H := Lib.hid h
  have HPD := Lib.hid (fun k => PSx.drewN h k)
  have HFS := Lib.hid hfs
  have HL := Lib.hid hl
  have HI := Lib.hid hI
  have cbg := begin_any h hl (by omega) 6 i [94, 91]
  clear hc hr hp hm hI h1 h17 h hl hfs G0 RL
  obtain ⟨R, hR⟩ : ∃ R, s.extract i s.size = R := ⟨_, rfl⟩
  rw [hR] at rz
  have RZ := Lib.hid rz
  clear rz
  simp only [hR] at rz1 rz2 q92 q96 p60 p40 p94
  go_enter Tryz.func26, Tryz.ntmps26
  go_wp2_with (first
    | (go_at_call 51; (with_reducible refine (p60 _).mono ?_); rintro e w' ⟨rfl, rfl⟩)
    | (go_at_call 51; (with_reducible refine (p40 _).mono ?_); rintro e w' ⟨rfl, rfl⟩)
    | (go_at_call 51; (with_reducible refine (p94 _).mono ?_); rintro e w' ⟨rfl, rfl⟩)
    | (go_at_call 54; refine cr.mono ?_; rintro e w' ⟨rfl, rfl⟩)
    | fail)
  refine cbg.mono ?_
  clear cbg
  rintro e w2 ⟨rfl, col2, ob2, cap2, cs2, h2, st2⟩
  have H2 := Lib.hid h2
  have ST2 := Lib.hid st2
  clear h2 st2
  go_wp2
  go_ret
  exact ⟨rfl, col2, ob2, cap2, fv, cs2, gn, by rw [beginLen, ← HL.out]; exact H2.out.on (by omega), ST2.out⟩
set_option maxRecDepth 100000 in
set_option maxHeartbeats 2000000 in
theorem step_full (h : PSx Tryz.prog w B col pb ob cap len s st i fv gb cs gn) (hl : len = st.fs.length) (hI : Inv st i) (hi : i < s.size) (hs : s.size ≤ 100000) (m : Int) (hm : w.cell? ⟨0, 0, none⟩ = some (.int .i64 m)) (hB : 0 < B) (hc : s.data.toList.getD i 0 = 94) (hp : [94, 91].isPrefixOf (s.data.toList.drop i) = true) (hr : st.room = false) :
    Calls Tryz.prog 26 #[.pointer (some ⟨pb, 0, none⟩), .int .i64 (i : Int)] w fun e w' => e = .returned (.int .i64 ((i + 2 : Nat) : Int)) ∧ StepPost B pb s gb w col ((st.write [94, 91]).tell i 7) (i + 2) w' := by
  have h17 := hI.2.2.2
  have h1 := hI.2.2.1
  have c0 := h.hp.cell 0
  obtain ⟨f, r, hfs⟩ : ∃ f r, st.fs = f :: r := by
    match hq : st.fs, hI.2.2.1 with
    | f :: r, _ => exact ⟨f, r, rfl⟩
    | [], hq2 => simp at hq2
  have hftx : f.row.tx.length ≤ 100000 := by
    have := hI.1
    rw [hfs, wtFs_cons] at this
    unfold wtF wtR at this
    omega
  have hflt : st.faults.length ≤ 10000000 := by have := hI.2.1; omega
  have HLR : Hid (len = r.length + 1) := by unfold Hid; rw [hl, hfs]; rfl
  have hr17 : r.length ≤ 17 := by have := HLR.out; omega
  have rz : (s.extract i s.size).size = s.size - i := by simp
  have rz1 : 0 < (s.extract i s.size).size := by omega
  have rz2 : (s.extract i s.size).size ≤ 100000 := by omega
  have G0 : Hid ((s.extract i s.size)[0]'rz1 = s.data.toList.getD i 0) := rest_get (s := s) (i := i) 0 rz1
  have RL := Lib.hid (rest_list s i)
  have q92 : ((((s.extract i s.size)[0]'rz1).toNat : Int) == 92) = false := by
    rw [G0.out]; exact neB (d := 92) rfl (by rw [hc]; decide)
  have q96 : ((((s.extract i s.size)[0]'rz1).toNat : Int) == 96) = false := by
    rw [G0.out]; exact neB (d := 96) rfl (by rw [hc]; decide)
  have p60 : ∀ w, Calls Tryz.prog 51 #[.string (s.extract i s.size), .string ⟨#[60, 60]⟩] w fun e w' => e = .returned (.bool false) ∧ w' = w := fun w => by
    have := Tryz.strings_HasPrefix (s.extract i s.size) ⟨#[60, 60]⟩ w
    rw [pre_hasPrefix, RL.out, show (ByteArray.mk #[60, 60]).data.toList = [60, 60] from rfl, pre_ne (by simpa using hi) (by rw [hc]; decide)] at this
    exact this
  have p40 : ∀ w, Calls Tryz.prog 51 #[.string (s.extract i s.size), .string ⟨#[40, 40]⟩] w fun e w' => e = .returned (.bool false) ∧ w' = w := fun w => by
    have := Tryz.strings_HasPrefix (s.extract i s.size) ⟨#[40, 40]⟩ w
    rw [pre_hasPrefix, RL.out, show (ByteArray.mk #[40, 40]).data.toList = [40, 40] from rfl, pre_ne (by simpa using hi) (by rw [hc]; decide)] at this
    exact this
  have p94 : ∀ w, Calls Tryz.prog 51 #[.string (s.extract i s.size), .string ⟨#[94, 91]⟩] w fun e w' => e = .returned (.bool true) ∧ w' = w := fun w => by
    have := Tryz.strings_HasPrefix (s.extract i s.size) ⟨#[94, 91]⟩ w
    rw [pre_hasPrefix, RL.out, show (ByteArray.mk #[94, 91]).data.toList = [94, 91] from rfl, hp] at this
    exact this
  have e1 : IntKind.i64.wrap ((i : Int) + 2) = ((i + 2 : Nat) : Int) := by rw [show (i : Int) + 2 = ((i + 2 : Nat) : Int) by omega]; exact IntWalk.i64_in _ (by omega)
  have hin := prefix_two hp
  simp only [Array.length_toList, ByteArray.size_data] at hin
  have cr := room_any h hl (by omega) (by omega)
  rw [hr] at cr
  have C0 := Lib.hid c0
  have H := Lib.hid h
  have HPD := Lib.hid (fun k => PSx.drewN h k)
  have HFS := Lib.hid hfs
  have HL := Lib.hid hl
  have HI := Lib.hid hI
  clear hc hr hp hm hI h1 h17 h hl hfs G0 RL
  obtain ⟨R, hR⟩ : ∃ R, s.extract i s.size = R := ⟨_, rfl⟩
  rw [hR] at rz
  have RZ := Lib.hid rz
  clear rz
  simp only [hR] at rz1 rz2 q92 q96 p60 p40 p94
  go_enter Tryz.func26, Tryz.ntmps26
  go_wp2_with (first
    | (go_at_call 51; (with_reducible refine (p60 _).mono ?_); rintro e w' ⟨rfl, rfl⟩)
    | (go_at_call 51; (with_reducible refine (p40 _).mono ?_); rintro e w' ⟨rfl, rfl⟩)
    | (go_at_call 51; (with_reducible refine (p94 _).mono ?_); rintro e w' ⟨rfl, rfl⟩)
    | (go_at_call 54; refine cr.mono ?_; rintro e w' ⟨rfl, rfl⟩)
    | fail)
  refine (top_any (n := r.length) (by rw [← HLR.out]; exact H.out) (by omega)).mono ?_
  rintro e w2 ⟨rfl, kk, rfl⟩
  go_wp2_with fail
  refine (writeTop_any (HPD.out kk) HFS.out ⟨#[94, 91]⟩ (by decide) (by omega)).mono ?_
  rintro e w3 ⟨rfl, col3, cs3, h3, st3⟩
  have H3 := Lib.hid h3
  have ST3 := Lib.hid st3.undrew
  clear h3 st3
  go_wp2_with fail
  refine (tell_any H3.out i 7 hflt).mono ?_
  rintro e w4 ⟨rfl, col4, fv4, h4, st4⟩
  have H4 := Lib.hid h4
  have ST4 := Lib.hid (ST3.out.trans st4)
  clear h4 st4
  go_wp2
  go_ret
  exact ⟨rfl, col4, ob, cap, fv4, cs3, gn, by rw [tellLen, writeLen, ← HL.out]; exact H4.out.on (by omega), ST4.out⟩
set_option maxRecDepth 100000 in
set_option maxHeartbeats 2000000 in
theorem step_shut (h : PSx Tryz.prog w B col pb ob cap len s st i fv gb cs gn) (hl : len = st.fs.length) (hI : Inv st i) (hi : i < s.size) (hs : s.size ≤ 100000) (m : Int) (hm : w.cell? ⟨0, 0, none⟩ = some (.int .i64 m)) (hB : 0 < B) (hc : s.data.toList.getD i 0 = 93) (hn : 0 < lastK 6 st.fs) :
    Calls Tryz.prog 26 #[.pointer (some ⟨pb, 0, none⟩), .int .i64 (i : Int)] w fun e w' => e = .returned (.int .i64 ((i + 1 : Nat) : Int)) ∧ StepPost B pb s gb w col (st.fin (lastK 6 st.fs)) (i + 1) w' := by
  have h17 := hI.2.2.2
  have h1 := hI.2.2.1
  have c0 := h.hp.cell 0
  obtain ⟨f, r, hfs⟩ : ∃ f r, st.fs = f :: r := by
    match hq : st.fs, hI.2.2.1 with
    | f :: r, _ => exact ⟨f, r, rfl⟩
    | [], hq2 => simp at hq2
  have hftx : f.row.tx.length ≤ 100000 := by
    have := hI.1
    rw [hfs, wtFs_cons] at this
    unfold wtF wtR at this
    omega
  have hflt : st.faults.length ≤ 10000000 := by have := hI.2.1; omega
  have HLR : Hid (len = r.length + 1) := by unfold Hid; rw [hl, hfs]; rfl
  have hr17 : r.length ≤ 17 := by have := HLR.out; omega
  have rz : (s.extract i s.size).size = s.size - i := by simp
  have rz1 : 0 < (s.extract i s.size).size := by omega
  have rz2 : (s.extract i s.size).size ≤ 100000 := by omega
  have G0 : Hid ((s.extract i s.size)[0]'rz1 = s.data.toList.getD i 0) := rest_get (s := s) (i := i) 0 rz1
  have RL := Lib.hid (rest_list s i)
  have q92 : ((((s.extract i s.size)[0]'rz1).toNat : Int) == 92) = false := by
    rw [G0.out]; exact neB (d := 92) rfl (by rw [hc]; decide)
  have q96 : ((((s.extract i s.size)[0]'rz1).toNat : Int) == 96) = false := by
    rw [G0.out]; exact neB (d := 96) rfl (by rw [hc]; decide)
  have q93 : ((((s.extract i s.size)[0]'rz1).toNat : Int) == 93) = true := by
    rw [G0.out]; exact isB (d := 93) rfl hc
  have p60 : ∀ w, Calls Tryz.prog 51 #[.string (s.extract i s.size), .string ⟨#[60, 60]⟩] w fun e w' => e = .returned (.bool false) ∧ w' = w := fun w => by
    have := Tryz.strings_HasPrefix (s.extract i s.size) ⟨#[60, 60]⟩ w
    rw [pre_hasPrefix, RL.out, show (ByteArray.mk #[60, 60]).data.toList = [60, 60] from rfl, pre_ne (by simpa using hi) (by rw [hc]; decide)] at this
    exact this
  have p40 : ∀ w, Calls Tryz.prog 51 #[.string (s.extract i s.size), .string ⟨#[40, 40]⟩] w fun e w' => e = .returned (.bool false) ∧ w' = w := fun w => by
    have := Tryz.strings_HasPrefix (s.extract i s.size) ⟨#[40, 40]⟩ w
    rw [pre_hasPrefix, RL.out, show (ByteArray.mk #[40, 40]).data.toList = [40, 40] from rfl, pre_ne (by simpa using hi) (by rw [hc]; decide)] at this
    exact this
  have p94 : ∀ w, Calls Tryz.prog 51 #[.string (s.extract i s.size), .string ⟨#[94, 91]⟩] w fun e w' => e = .returned (.bool false) ∧ w' = w := fun w => by
    have := Tryz.strings_HasPrefix (s.extract i s.size) ⟨#[94, 91]⟩ w
    rw [pre_hasPrefix, RL.out, show (ByteArray.mk #[94, 91]).data.toList = [94, 91] from rfl, pre_ne (by simpa using hi) (by rw [hc]; decide)] at this
    exact this
  have e1 : IntKind.i64.wrap ((i : Int) + 1) = ((i + 1 : Nat) : Int) := by rw [show (i : Int) + 1 = ((i + 1 : Nat) : Int) by omega]; exact IntWalk.i64_in _ (by omega)
  have cl := last_any h hl (by omega) (by omega) 6
  have hla : lastK 6 st.fs < len := by rcases lastK_lt 6 st.fs with h0 | h0 <;> omega
  have C0 := Lib.hid c0
  have H := Lib.hid h
  have HPD := Lib.hid (fun k => PSx.drewN h k)
  have HFS := Lib.hid hfs
  have HL := Lib.hid hl
  have HI := Lib.hid hI
  generalize lastK 6 st.fs = n at cl hla hn ⊢
  clear hc hm hI h1 h17 h hl hfs G0 RL
  obtain ⟨R, hR⟩ : ∃ R, s.extract i s.size = R := ⟨_, rfl⟩
  rw [hR] at rz
  have RZ := Lib.hid rz
  clear rz
  simp only [hR] at rz1 rz2 q92 q96 q93 p60 p40 p94
  go_enter Tryz.func26, Tryz.ntmps26
  go_wp2_with (first
    | (go_at_call 51; (with_reducible refine (p60 _).mono ?_); rintro e w' ⟨rfl, rfl⟩)
    | (go_at_call 51; (with_reducible refine (p40 _).mono ?_); rintro e w' ⟨rfl, rfl⟩)
    | (go_at_call 51; (with_reducible refine (p94 _).mono ?_); rintro e w' ⟨rfl, rfl⟩)
    | (go_at_call 57; refine cl.mono ?_; rintro e w' ⟨rfl, rfl⟩)
    | fail)
  refine (end_any H.out HL.out n (by omega) hla i HI.out (by omega)).mono ?_
  rintro e w2 ⟨rfl, col2, fv2, cs2, h2, st2⟩
  have H2 := Lib.hid h2
  have ST2 := Lib.hid st2
  clear h2 st2 cl
  go_wp2
  go_ret
  have hfl := finLen HI.out (n := n) (by omega) (by rw [← HL.out]; exact hla)
  exact ⟨rfl, col2, ob, cap, fv2, cs2, gn, by rw [hfl]; exact H2.out.on (by omega), ST2.out⟩
set_option maxRecDepth 100000 in
set_option maxHeartbeats 2000000 in
theorem step_starW (h : PSx Tryz.prog w B col pb ob cap len s st i fv gb cs gn) (hl : len = st.fs.length) (hI : Inv st i) (hi : i < s.size) (hs : s.size ≤ 100000) (m : Int) (hm : w.cell? ⟨0, 0, none⟩ = some (.int .i64 m)) (hB : 0 < B) (hc : s.data.toList.getD i 0 = 42) :
    Calls Tryz.prog 26 #[.pointer (some ⟨pb, 0, none⟩), .int .i64 (i : Int)] w fun e w' => e = .returned (.int .i64 ((i + 1 : Nat) : Int)) ∧ StepPost B pb s gb w col (st.mark s.data.toList i 1) (i + 1) w' := by
  have h17 := hI.2.2.2
  have h1 := hI.2.2.1
  have c0 := h.hp.cell 0
  obtain ⟨f, r, hfs⟩ : ∃ f r, st.fs = f :: r := by
    match hq : st.fs, hI.2.2.1 with
    | f :: r, _ => exact ⟨f, r, rfl⟩
    | [], hq2 => simp at hq2
  have hftx : f.row.tx.length ≤ 100000 := by
    have := hI.1
    rw [hfs, wtFs_cons] at this
    unfold wtF wtR at this
    omega
  have hflt : st.faults.length ≤ 10000000 := by have := hI.2.1; omega
  have HLR : Hid (len = r.length + 1) := by unfold Hid; rw [hl, hfs]; rfl
  have hr17 : r.length ≤ 17 := by have := HLR.out; omega
  have rz : (s.extract i s.size).size = s.size - i := by simp
  have rz1 : 0 < (s.extract i s.size).size := by omega
  have rz2 : (s.extract i s.size).size ≤ 100000 := by omega
  have G0 : Hid ((s.extract i s.size)[0]'rz1 = s.data.toList.getD i 0) := rest_get (s := s) (i := i) 0 rz1
  have RL := Lib.hid (rest_list s i)
  have q92 : ((((s.extract i s.size)[0]'rz1).toNat : Int) == 92) = false := by
    rw [G0.out]; exact neB (d := 92) rfl (by rw [hc]; decide)
  have q96 : ((((s.extract i s.size)[0]'rz1).toNat : Int) == 96) = false := by
    rw [G0.out]; exact neB (d := 96) rfl (by rw [hc]; decide)
  have q93 : ((((s.extract i s.size)[0]'rz1).toNat : Int) == 93) = false := by
    rw [G0.out]; exact neB (d := 93) rfl (by rw [hc]; decide)
  have q42 : ((((s.extract i s.size)[0]'rz1).toNat : Int) == 42) = true := by
    rw [G0.out]; exact isB (d := 42) rfl hc
  have p60 : ∀ w, Calls Tryz.prog 51 #[.string (s.extract i s.size), .string ⟨#[60, 60]⟩] w fun e w' => e = .returned (.bool false) ∧ w' = w := fun w => by
    have := Tryz.strings_HasPrefix (s.extract i s.size) ⟨#[60, 60]⟩ w
    rw [pre_hasPrefix, RL.out, show (ByteArray.mk #[60, 60]).data.toList = [60, 60] from rfl, pre_ne (by simpa using hi) (by rw [hc]; decide)] at this
    exact this
  have p40 : ∀ w, Calls Tryz.prog 51 #[.string (s.extract i s.size), .string ⟨#[40, 40]⟩] w fun e w' => e = .returned (.bool false) ∧ w' = w := fun w => by
    have := Tryz.strings_HasPrefix (s.extract i s.size) ⟨#[40, 40]⟩ w
    rw [pre_hasPrefix, RL.out, show (ByteArray.mk #[40, 40]).data.toList = [40, 40] from rfl, pre_ne (by simpa using hi) (by rw [hc]; decide)] at this
    exact this
  have p94 : ∀ w, Calls Tryz.prog 51 #[.string (s.extract i s.size), .string ⟨#[94, 91]⟩] w fun e w' => e = .returned (.bool false) ∧ w' = w := fun w => by
    have := Tryz.strings_HasPrefix (s.extract i s.size) ⟨#[94, 91]⟩ w
    rw [pre_hasPrefix, RL.out, show (ByteArray.mk #[94, 91]).data.toList = [94, 91] from rfl, pre_ne (by simpa using hi) (by rw [hc]; decide)] at this
    exact this
  have e1 : IntKind.i64.wrap ((i : Int) + 1) = ((i + 1 : Nat) : Int) := by rw [show (i : Int) + 1 = ((i + 1 : Nat) : Int) by omega]; exact IntWalk.i64_in _ (by omega)
  have cm := mark_any h hl hI hi hs 1
  have C0 := Lib.hid c0
  have H := Lib.hid h
  have HPD := Lib.hid (fun k => PSx.drewN h k)
  have HFS := Lib.hid hfs
  have HL := Lib.hid hl
  have HI := Lib.hid hI
  clear hc hm hI h1 h17 h hl hfs G0 RL
  obtain ⟨R, hR⟩ : ∃ R, s.extract i s.size = R := ⟨_, rfl⟩
  rw [hR] at rz
  have RZ := Lib.hid rz
  clear rz
  simp only [hR] at rz1 rz2 q92 q96 q93 q42 p60 p40 p94
  go_enter Tryz.func26, Tryz.ntmps26
  go_wp2_with (first
    | (go_at_call 51; (with_reducible refine (p60 _).mono ?_); rintro e w' ⟨rfl, rfl⟩)
    | (go_at_call 51; (with_reducible refine (p40 _).mono ?_); rintro e w' ⟨rfl, rfl⟩)
    | (go_at_call 51; (with_reducible refine (p94 _).mono ?_); rintro e w' ⟨rfl, rfl⟩)
    | fail)
  refine cm.mono ?_
  clear cm
  rintro e w2 ⟨rfl, col2, ob2, cap2, fv2, cs2, h2, st2⟩
  have H2 := Lib.hid h2
  have ST2 := Lib.hid st2
  clear h2 st2
  go_wp2
  go_ret
  exact ⟨rfl, col2, ob2, cap2, fv2, cs2, gn, H2.out.on (by omega), ST2.out⟩
set_option maxRecDepth 100000 in
set_option maxHeartbeats 2000000 in
theorem step_barW (h : PSx Tryz.prog w B col pb ob cap len s st i fv gb cs gn) (hl : len = st.fs.length) (hI : Inv st i) (hi : i < s.size) (hs : s.size ≤ 100000) (m : Int) (hm : w.cell? ⟨0, 0, none⟩ = some (.int .i64 m)) (hB : 0 < B) (hc : s.data.toList.getD i 0 = 95) :
    Calls Tryz.prog 26 #[.pointer (some ⟨pb, 0, none⟩), .int .i64 (i : Int)] w fun e w' => e = .returned (.int .i64 ((i + 1 : Nat) : Int)) ∧ StepPost B pb s gb w col (st.mark s.data.toList i 2) (i + 1) w' := by
  have h17 := hI.2.2.2
  have h1 := hI.2.2.1
  have c0 := h.hp.cell 0
  obtain ⟨f, r, hfs⟩ : ∃ f r, st.fs = f :: r := by
    match hq : st.fs, hI.2.2.1 with
    | f :: r, _ => exact ⟨f, r, rfl⟩
    | [], hq2 => simp at hq2
  have hftx : f.row.tx.length ≤ 100000 := by
    have := hI.1
    rw [hfs, wtFs_cons] at this
    unfold wtF wtR at this
    omega
  have hflt : st.faults.length ≤ 10000000 := by have := hI.2.1; omega
  have HLR : Hid (len = r.length + 1) := by unfold Hid; rw [hl, hfs]; rfl
  have hr17 : r.length ≤ 17 := by have := HLR.out; omega
  have rz : (s.extract i s.size).size = s.size - i := by simp
  have rz1 : 0 < (s.extract i s.size).size := by omega
  have rz2 : (s.extract i s.size).size ≤ 100000 := by omega
  have G0 : Hid ((s.extract i s.size)[0]'rz1 = s.data.toList.getD i 0) := rest_get (s := s) (i := i) 0 rz1
  have RL := Lib.hid (rest_list s i)
  have q92 : ((((s.extract i s.size)[0]'rz1).toNat : Int) == 92) = false := by
    rw [G0.out]; exact neB (d := 92) rfl (by rw [hc]; decide)
  have q96 : ((((s.extract i s.size)[0]'rz1).toNat : Int) == 96) = false := by
    rw [G0.out]; exact neB (d := 96) rfl (by rw [hc]; decide)
  have q93 : ((((s.extract i s.size)[0]'rz1).toNat : Int) == 93) = false := by
    rw [G0.out]; exact neB (d := 93) rfl (by rw [hc]; decide)
  have q42 : ((((s.extract i s.size)[0]'rz1).toNat : Int) == 42) = false := by
    rw [G0.out]; exact neB (d := 42) rfl (by rw [hc]; decide)
  have q95 : ((((s.extract i s.size)[0]'rz1).toNat : Int) == 95) = true := by
    rw [G0.out]; exact isB (d := 95) rfl hc
  have p60 : ∀ w, Calls Tryz.prog 51 #[.string (s.extract i s.size), .string ⟨#[60, 60]⟩] w fun e w' => e = .returned (.bool false) ∧ w' = w := fun w => by
    have := Tryz.strings_HasPrefix (s.extract i s.size) ⟨#[60, 60]⟩ w
    rw [pre_hasPrefix, RL.out, show (ByteArray.mk #[60, 60]).data.toList = [60, 60] from rfl, pre_ne (by simpa using hi) (by rw [hc]; decide)] at this
    exact this
  have p40 : ∀ w, Calls Tryz.prog 51 #[.string (s.extract i s.size), .string ⟨#[40, 40]⟩] w fun e w' => e = .returned (.bool false) ∧ w' = w := fun w => by
    have := Tryz.strings_HasPrefix (s.extract i s.size) ⟨#[40, 40]⟩ w
    rw [pre_hasPrefix, RL.out, show (ByteArray.mk #[40, 40]).data.toList = [40, 40] from rfl, pre_ne (by simpa using hi) (by rw [hc]; decide)] at this
    exact this
  have p94 : ∀ w, Calls Tryz.prog 51 #[.string (s.extract i s.size), .string ⟨#[94, 91]⟩] w fun e w' => e = .returned (.bool false) ∧ w' = w := fun w => by
    have := Tryz.strings_HasPrefix (s.extract i s.size) ⟨#[94, 91]⟩ w
    rw [pre_hasPrefix, RL.out, show (ByteArray.mk #[94, 91]).data.toList = [94, 91] from rfl, pre_ne (by simpa using hi) (by rw [hc]; decide)] at this
    exact this
  have e1 : IntKind.i64.wrap ((i : Int) + 1) = ((i + 1 : Nat) : Int) := by rw [show (i : Int) + 1 = ((i + 1 : Nat) : Int) by omega]; exact IntWalk.i64_in _ (by omega)
  have cm := mark_any h hl hI hi hs 2
  have C0 := Lib.hid c0
  have H := Lib.hid h
  have HPD := Lib.hid (fun k => PSx.drewN h k)
  have HFS := Lib.hid hfs
  have HL := Lib.hid hl
  have HI := Lib.hid hI
  clear hc hm hI h1 h17 h hl hfs G0 RL
  obtain ⟨R, hR⟩ : ∃ R, s.extract i s.size = R := ⟨_, rfl⟩
  rw [hR] at rz
  have RZ := Lib.hid rz
  clear rz
  simp only [hR] at rz1 rz2 q92 q96 q93 q42 q95 p60 p40 p94
  go_enter Tryz.func26, Tryz.ntmps26
  go_wp2_with (first
    | (go_at_call 51; (with_reducible refine (p60 _).mono ?_); rintro e w' ⟨rfl, rfl⟩)
    | (go_at_call 51; (with_reducible refine (p40 _).mono ?_); rintro e w' ⟨rfl, rfl⟩)
    | (go_at_call 51; (with_reducible refine (p94 _).mono ?_); rintro e w' ⟨rfl, rfl⟩)
    | fail)
  refine cm.mono ?_
  clear cm
  rintro e w2 ⟨rfl, col2, ob2, cap2, fv2, cs2, h2, st2⟩
  have H2 := Lib.hid h2
  have ST2 := Lib.hid st2
  clear h2 st2
  go_wp2
  go_ret
  exact ⟨rfl, col2, ob2, cap2, fv2, cs2, gn, H2.out.on (by omega), ST2.out⟩
set_option maxRecDepth 100000 in
set_option maxHeartbeats 2000000 in
theorem step_short (h : PSx Tryz.prog w B col pb ob cap len s st i fv gb cs gn) (hl : len = st.fs.length) (hI : Inv st i) (hi : i < s.size) (hs : s.size ≤ 100000) (m : Int) (hm : w.cell? ⟨0, 0, none⟩ = some (.int .i64 m)) (hB : 0 < B) (hc : s.data.toList.getD i 0 = 92) (hn : ¬ i + 1 < s.size) :
    Calls Tryz.prog 26 #[.pointer (some ⟨pb, 0, none⟩), .int .i64 (i : Int)] w fun e w' => e = .returned (.int .i64 ((i + 1 : Nat) : Int)) ∧ StepPost B pb s gb w col (st.write [s.data.toList.getD i 0]) (i + 1) w' := by
  have h17 := hI.2.2.2
  have h1 := hI.2.2.1
  have c0 := h.hp.cell 0
  obtain ⟨f, r, hfs⟩ : ∃ f r, st.fs = f :: r := by
    match hq : st.fs, hI.2.2.1 with
    | f :: r, _ => exact ⟨f, r, rfl⟩
    | [], hq2 => simp at hq2
  have hftx : f.row.tx.length ≤ 100000 := by
    have := hI.1
    rw [hfs, wtFs_cons] at this
    unfold wtF wtR at this
    omega
  have hflt : st.faults.length ≤ 10000000 := by have := hI.2.1; omega
  have HLR : Hid (len = r.length + 1) := by unfold Hid; rw [hl, hfs]; rfl
  have hr17 : r.length ≤ 17 := by have := HLR.out; omega
  have rz : (s.extract i s.size).size = s.size - i := by simp
  have rz1 : 0 < (s.extract i s.size).size := by omega
  have rz2 : (s.extract i s.size).size ≤ 100000 := by omega
  have G0 : Hid ((s.extract i s.size)[0]'rz1 = s.data.toList.getD i 0) := rest_get (s := s) (i := i) 0 rz1
  have RL := Lib.hid (rest_list s i)
  have q92 : ((((s.extract i s.size)[0]'rz1).toNat : Int) == 92) = true := by
    rw [G0.out]; exact isB (d := 92) rfl hc
  have q96 : ((((s.extract i s.size)[0]'rz1).toNat : Int) == 96) = false := by
    rw [G0.out]; exact neB (d := 96) rfl (by rw [hc]; decide)
  have q93 : ((((s.extract i s.size)[0]'rz1).toNat : Int) == 93) = false := by
    rw [G0.out]; exact neB (d := 93) rfl (by rw [hc]; decide)
  have q42 : ((((s.extract i s.size)[0]'rz1).toNat : Int) == 42) = false := by
    rw [G0.out]; exact neB (d := 42) rfl (by rw [hc]; decide)
  have q95 : ((((s.extract i s.size)[0]'rz1).toNat : Int) == 95) = false := by
    rw [G0.out]; exact neB (d := 95) rfl (by rw [hc]; decide)
  have p60 : ∀ w, Calls Tryz.prog 51 #[.string (s.extract i s.size), .string ⟨#[60, 60]⟩] w fun e w' => e = .returned (.bool false) ∧ w' = w := fun w => by
    have := Tryz.strings_HasPrefix (s.extract i s.size) ⟨#[60, 60]⟩ w
    rw [pre_hasPrefix, RL.out, show (ByteArray.mk #[60, 60]).data.toList = [60, 60] from rfl, pre_ne (by simpa using hi) (by rw [hc]; decide)] at this
    exact this
  have p40 : ∀ w, Calls Tryz.prog 51 #[.string (s.extract i s.size), .string ⟨#[40, 40]⟩] w fun e w' => e = .returned (.bool false) ∧ w' = w := fun w => by
    have := Tryz.strings_HasPrefix (s.extract i s.size) ⟨#[40, 40]⟩ w
    rw [pre_hasPrefix, RL.out, show (ByteArray.mk #[40, 40]).data.toList = [40, 40] from rfl, pre_ne (by simpa using hi) (by rw [hc]; decide)] at this
    exact this
  have p94 : ∀ w, Calls Tryz.prog 51 #[.string (s.extract i s.size), .string ⟨#[94, 91]⟩] w fun e w' => e = .returned (.bool false) ∧ w' = w := fun w => by
    have := Tryz.strings_HasPrefix (s.extract i s.size) ⟨#[94, 91]⟩ w
    rw [pre_hasPrefix, RL.out, show (ByteArray.mk #[94, 91]).data.toList = [94, 91] from rfl, pre_ne (by simpa using hi) (by rw [hc]; decide)] at this
    exact this
  have e1 : IntKind.i64.wrap ((i : Int) + 1) = ((i + 1 : Nat) : Int) := by rw [show (i : Int) + 1 = ((i + 1 : Nat) : Int) by omega]; exact IntWalk.i64_in _ (by omega)
  have RX : Hid (((s.extract i s.size).extract 0 1).data.toList = [s.data.toList.getD i 0]) := by
    unfold Hid
    rw [cut_list, rest_list, List.drop_drop]
    have hlt : i < s.data.toList.length := by simpa using hi
    rw [Nat.add_zero, List.drop_eq_getElem_cons hlt, List.getD_eq_getElem?_getD, List.getElem?_eq_getElem hlt]
    rfl
  have rz3 : ((s.extract i s.size).size : Int) ≤ 1 := by omega
  have C0 := Lib.hid c0
  have H := Lib.hid h
  have HPD := Lib.hid (fun k => PSx.drewN h k)
  have HFS := Lib.hid hfs
  have HL := Lib.hid hl
  have HI := Lib.hid hI
  have rz4 : (1 : Int) ≤ ((s.extract i s.size).size : Int) := by omega
  clear hc hn hm hI h1 h17 h hl hfs G0 RL
  obtain ⟨R, hR⟩ : ∃ R, s.extract i s.size = R := ⟨_, rfl⟩
  rw [hR] at rz
  have RZ := Lib.hid rz
  clear rz
  simp only [hR] at rz1 rz2 q92 q96 q93 q42 q95 p60 p40 p94 RX rz4 rz3
  go_enter Tryz.func26, Tryz.ntmps26
  go_wp2_with (first
    | (go_at_call 51; (with_reducible refine (p60 _).mono ?_); rintro e w' ⟨rfl, rfl⟩)
    | (go_at_call 51; (with_reducible refine (p40 _).mono ?_); rintro e w' ⟨rfl, rfl⟩)
    | (go_at_call 51; (with_reducible refine (p94 _).mono ?_); rintro e w' ⟨rfl, rfl⟩)
    | fail)
  refine wp_region_held_drew (S := (fun w' => w'.cell? ⟨pb, 0, none⟩ = some (.string s))) (by kernel_rfl) ?_ (fun hHeld0 => ?_)
  · (try dsimp only)
    first | exact C0.out | exact z0
  refine wpAnyH_take (i := 0) (v := ?_) rfl (by kernel_rfl) (by kernel_rfl) (by kernel_rfl) (fun _ _ _ h => h) (Or.inl ⟨by kernel_rfl, ?_⟩) (by assumption) ?_
  rotate_left
  · (intro w hSw; (try dsimp only at hSw); go_simp; (first | done | with_reducible rfl))
  (try simp only [Act.put, List.setIfInBounds_toArray, List.set_cons_zero, List.set_cons_succ])
  refine wpAnyH_take (i := 4) (v := ?_) rfl (by kernel_rfl) (by kernel_rfl) (by kernel_rfl) (fun _ _ _ h => h) (Or.inl ⟨by kernel_rfl, ?_⟩) (by assumption) ?_
  rotate_left
  · (intro w hSw; (try dsimp only at hSw); go_simp; (first | done | with_reducible rfl))
  (try simp only [Act.put, List.setIfInBounds_toArray, List.set_cons_zero, List.set_cons_succ])
  refine wpAnyH_take (i := 5) (v := ?_) rfl (by kernel_rfl) (by kernel_rfl) (by kernel_rfl) (fun _ _ _ h => h) (Or.inl ⟨by kernel_rfl, ?_⟩) (by assumption) ?_
  rotate_left
  · (intro w hSw; (try dsimp only at hSw); go_simp; (first | done | with_reducible rfl))
  (try simp only [Act.put, List.setIfInBounds_toArray, List.set_cons_zero, List.set_cons_succ])
  refine wpAnyH_ready (rs := [1]) (by kernel_rfl) (by simp) ?_
  refine AllReadyH.cons rfl (fun K hK => ?_) AllReadyH.nil
  go_simp
  refine (top_any (n := r.length) (by rw [← HLR.out]; exact HPD.out _) (by omega)).mono ?_
  rintro e w3 ⟨rfl, kk, rfl⟩
  go_wp2_with fail
  refine hK.out _ _ ?_ (fun hHeld1 => ?_)
  · (try dsimp only)
    first | exact C0.out | exact z0
  clear hK K hHeld0
  (try simp only [Act.put, List.setIfInBounds_toArray, List.set_cons_zero, List.set_cons_succ])
  refine wpAnyH_take (i := 2) (v := ?_) rfl (by kernel_rfl) (by kernel_rfl) (by kernel_rfl) (fun _ _ _ h => h) (Or.inl ⟨by kernel_rfl, ?_⟩) (by assumption) ?_
  rotate_left
  · (intro w hSw; (try dsimp only at hSw); go_simp; (first | done | with_reducible rfl))
  (try simp only [Act.put, List.setIfInBounds_toArray, List.set_cons_zero, List.set_cons_succ])
  refine wpAnyH_take (i := 3) (v := ?_) rfl (by kernel_rfl) (by kernel_rfl) (by kernel_rfl) (fun _ _ _ h => h) (Or.inl ⟨by kernel_rfl, ?_⟩) (by assumption) ?_
  rotate_left
  · (intro w hSw; (try dsimp only at hSw); go_simp; (first | done | with_reducible rfl))
  (try simp only [Act.put, List.setIfInBounds_toArray, List.set_cons_zero, List.set_cons_succ])
  refine wpAnyH_ready (rs := [6]) (by kernel_rfl) (by simp) ?_
  refine AllReadyH.cons rfl (fun K hK => ?_) AllReadyH.nil
  go_simp
  refine (writeTop_any (HPD.out _) HFS.out (R.extract 0 1) (by simp; omega) (by omega)).mono ?_
  rintro e w4 ⟨rfl, col4, cs4, h4, st4⟩
  have st5 := st4.undrew
  have H4 := Lib.hid h4
  have ST4 := Lib.hid st5
  have z0 := h4.hp.cell 0
  clear h4 st4 st5
  go_wp2_with fail
  refine hK.out _ _ ?_ (fun hHeld2 => ?_)
  · (try dsimp only)
    first | exact C0.out | exact z0
  clear hK K hHeld1
  (try simp only [Act.put, List.setIfInBounds_toArray, List.set_cons_zero, List.set_cons_succ])
  refine wpAnyH_done (by kernel_rfl) ?_ _
  go_wp2
  go_ret
  refine ⟨rfl, col4, ob, cap, fv, cs4, gn, ?_, ST4.out⟩
  have e : (R.extract 0 1).data.toList = [s.data.toList.getD i 0] := RX.out
  have H5 := H4.out
  rw [e] at H5
  rw [writeLen, ← HL.out]
  exact H5.on (by omega)
set_option maxRecDepth 100000 in
set_option maxHeartbeats 2000000 in
theorem step_back (h : PSx Tryz.prog w B col pb ob cap len s st i fv gb cs gn) (hl : len = st.fs.length) (hI : Inv st i) (hi : i < s.size) (hs : s.size ≤ 100000) (m : Int) (hm : w.cell? ⟨0, 0, none⟩ = some (.int .i64 m)) (hB : 0 < B) (hc : s.data.toList.getD i 0 = 92) (hn : i + 1 < s.size) (he : escB (s.data.toList.getD (i + 1) 0) = false) :
    Calls Tryz.prog 26 #[.pointer (some ⟨pb, 0, none⟩), .int .i64 (i : Int)] w fun e w' => e = .returned (.int .i64 ((i + 1 : Nat) : Int)) ∧ StepPost B pb s gb w col (st.write [s.data.toList.getD i 0]) (i + 1) w' := by
  have h17 := hI.2.2.2
  have h1 := hI.2.2.1
  have c0 := h.hp.cell 0
  obtain ⟨f, r, hfs⟩ : ∃ f r, st.fs = f :: r := by
    match hq : st.fs, hI.2.2.1 with
    | f :: r, _ => exact ⟨f, r, rfl⟩
    | [], hq2 => simp at hq2
  have hftx : f.row.tx.length ≤ 100000 := by
    have := hI.1
    rw [hfs, wtFs_cons] at this
    unfold wtF wtR at this
    omega
  have hflt : st.faults.length ≤ 10000000 := by have := hI.2.1; omega
  have HLR : Hid (len = r.length + 1) := by unfold Hid; rw [hl, hfs]; rfl
  have hr17 : r.length ≤ 17 := by have := HLR.out; omega
  have rz : (s.extract i s.size).size = s.size - i := by simp
  have rz1 : 0 < (s.extract i s.size).size := by omega
  have rz2 : (s.extract i s.size).size ≤ 100000 := by omega
  have G0 : Hid ((s.extract i s.size)[0]'rz1 = s.data.toList.getD i 0) := rest_get (s := s) (i := i) 0 rz1
  have RL := Lib.hid (rest_list s i)
  have q92 : ((((s.extract i s.size)[0]'rz1).toNat : Int) == 92) = true := by
    rw [G0.out]; exact isB (d := 92) rfl hc
  have q96 : ((((s.extract i s.size)[0]'rz1).toNat : Int) == 96) = false := by
    rw [G0.out]; exact neB (d := 96) rfl (by rw [hc]; decide)
  have q93 : ((((s.extract i s.size)[0]'rz1).toNat : Int) == 93) = false := by
    rw [G0.out]; exact neB (d := 93) rfl (by rw [hc]; decide)
  have q42 : ((((s.extract i s.size)[0]'rz1).toNat : Int) == 42) = false := by
    rw [G0.out]; exact neB (d := 42) rfl (by rw [hc]; decide)
  have q95 : ((((s.extract i s.size)[0]'rz1).toNat : Int) == 95) = false := by
    rw [G0.out]; exact neB (d := 95) rfl (by rw [hc]; decide)
  have p60 : ∀ w, Calls Tryz.prog 51 #[.string (s.extract i s.size), .string ⟨#[60, 60]⟩] w fun e w' => e = .returned (.bool false) ∧ w' = w := fun w => by
    have := Tryz.strings_HasPrefix (s.extract i s.size) ⟨#[60, 60]⟩ w
    rw [pre_hasPrefix, RL.out, show (ByteArray.mk #[60, 60]).data.toList = [60, 60] from rfl, pre_ne (by simpa using hi) (by rw [hc]; decide)] at this
    exact this
  have p40 : ∀ w, Calls Tryz.prog 51 #[.string (s.extract i s.size), .string ⟨#[40, 40]⟩] w fun e w' => e = .returned (.bool false) ∧ w' = w := fun w => by
    have := Tryz.strings_HasPrefix (s.extract i s.size) ⟨#[40, 40]⟩ w
    rw [pre_hasPrefix, RL.out, show (ByteArray.mk #[40, 40]).data.toList = [40, 40] from rfl, pre_ne (by simpa using hi) (by rw [hc]; decide)] at this
    exact this
  have p94 : ∀ w, Calls Tryz.prog 51 #[.string (s.extract i s.size), .string ⟨#[94, 91]⟩] w fun e w' => e = .returned (.bool false) ∧ w' = w := fun w => by
    have := Tryz.strings_HasPrefix (s.extract i s.size) ⟨#[94, 91]⟩ w
    rw [pre_hasPrefix, RL.out, show (ByteArray.mk #[94, 91]).data.toList = [94, 91] from rfl, pre_ne (by simpa using hi) (by rw [hc]; decide)] at this
    exact this
  have e1 : IntKind.i64.wrap ((i : Int) + 1) = ((i + 1 : Nat) : Int) := by rw [show (i : Int) + 1 = ((i + 1 : Nat) : Int) by omega]; exact IntWalk.i64_in _ (by omega)
  have RX : Hid (((s.extract i s.size).extract 0 1).data.toList = [s.data.toList.getD i 0]) := by
    unfold Hid
    rw [cut_list, rest_list, List.drop_drop]
    have hlt : i < s.data.toList.length := by simpa using hi
    rw [Nat.add_zero, List.drop_eq_getElem_cons hlt, List.getD_eq_getElem?_getD, List.getElem?_eq_getElem hlt]
    rfl
  have rz3 : 1 < (s.extract i s.size).size := by omega
  have ce : ∀ w, Calls Tryz.prog 23 #[.int .u8 (((s.extract i s.size)[1]'rz3).toNat : Int)] w fun e w' => e = .returned (.bool false) ∧ w = w' := fun w => by
    have := escaped_any ((s.extract i s.size)[1]'rz3) w
    rw [rest_get 1 rz3, he] at this
    rw [rest_get 1 rz3]
    exact this
  have C0 := Lib.hid c0
  have H := Lib.hid h
  have HPD := Lib.hid (fun k => PSx.drewN h k)
  have HFS := Lib.hid hfs
  have HL := Lib.hid hl
  have HI := Lib.hid hI
  have rz4 : (1 : Int) ≤ ((s.extract i s.size).size : Int) := by omega
  clear hc he hm hI h1 h17 h hl hfs G0 RL
  obtain ⟨R, hR⟩ : ∃ R, s.extract i s.size = R := ⟨_, rfl⟩
  rw [hR] at rz
  have RZ := Lib.hid rz
  clear rz
  simp only [hR] at rz1 rz2 q92 q96 q93 q42 q95 p60 p40 p94 RX rz4 rz3 ce
  go_enter Tryz.func26, Tryz.ntmps26
  go_wp2_with (first
    | (go_at_call 51; (with_reducible refine (p60 _).mono ?_); rintro e w' ⟨rfl, rfl⟩)
    | (go_at_call 51; (with_reducible refine (p40 _).mono ?_); rintro e w' ⟨rfl, rfl⟩)
    | (go_at_call 51; (with_reducible refine (p94 _).mono ?_); rintro e w' ⟨rfl, rfl⟩)
    | (go_at_call 23; refine (ce _).mono ?_; rintro e w' ⟨rfl, rfl⟩)
    | fail)
  refine wp_region_held_drew (S := (fun w' => w'.cell? ⟨pb, 0, none⟩ = some (.string s))) (by kernel_rfl) ?_ (fun hHeld0 => ?_)
  · (try dsimp only)
    first | exact C0.out | exact z0
  refine wpAnyH_take (i := 0) (v := ?_) rfl (by kernel_rfl) (by kernel_rfl) (by kernel_rfl) (fun _ _ _ h => h) (Or.inl ⟨by kernel_rfl, ?_⟩) (by assumption) ?_
  rotate_left
  · (intro w hSw; (try dsimp only at hSw); go_simp; (first | done | with_reducible rfl))
  (try simp only [Act.put, List.setIfInBounds_toArray, List.set_cons_zero, List.set_cons_succ])
  refine wpAnyH_take (i := 4) (v := ?_) rfl (by kernel_rfl) (by kernel_rfl) (by kernel_rfl) (fun _ _ _ h => h) (Or.inl ⟨by kernel_rfl, ?_⟩) (by assumption) ?_
  rotate_left
  · (intro w hSw; (try dsimp only at hSw); go_simp; (first | done | with_reducible rfl))
  (try simp only [Act.put, List.setIfInBounds_toArray, List.set_cons_zero, List.set_cons_succ])
  refine wpAnyH_take (i := 5) (v := ?_) rfl (by kernel_rfl) (by kernel_rfl) (by kernel_rfl) (fun _ _ _ h => h) (Or.inl ⟨by kernel_rfl, ?_⟩) (by assumption) ?_
  rotate_left
  · (intro w hSw; (try dsimp only at hSw); go_simp; (first | done | with_reducible rfl))
  (try simp only [Act.put, List.setIfInBounds_toArray, List.set_cons_zero, List.set_cons_succ])
  refine wpAnyH_ready (rs := [1]) (by kernel_rfl) (by simp) ?_
  refine AllReadyH.cons rfl (fun K hK => ?_) AllReadyH.nil
  go_simp
  refine (top_any (n := r.length) (by rw [← HLR.out]; exact HPD.out _) (by omega)).mono ?_
  rintro e w3 ⟨rfl, kk, rfl⟩
  go_wp2_with fail
  refine hK.out _ _ ?_ (fun hHeld1 => ?_)
  · (try dsimp only)
    first | exact C0.out | exact z0
  clear hK K hHeld0
  (try simp only [Act.put, List.setIfInBounds_toArray, List.set_cons_zero, List.set_cons_succ])
  refine wpAnyH_take (i := 2) (v := ?_) rfl (by kernel_rfl) (by kernel_rfl) (by kernel_rfl) (fun _ _ _ h => h) (Or.inl ⟨by kernel_rfl, ?_⟩) (by assumption) ?_
  rotate_left
  · (intro w hSw; (try dsimp only at hSw); go_simp; (first | done | with_reducible rfl))
  (try simp only [Act.put, List.setIfInBounds_toArray, List.set_cons_zero, List.set_cons_succ])
  refine wpAnyH_take (i := 3) (v := ?_) rfl (by kernel_rfl) (by kernel_rfl) (by kernel_rfl) (fun _ _ _ h => h) (Or.inl ⟨by kernel_rfl, ?_⟩) (by assumption) ?_
  rotate_left
  · (intro w hSw; (try dsimp only at hSw); go_simp; (first | done | with_reducible rfl))
  (try simp only [Act.put, List.setIfInBounds_toArray, List.set_cons_zero, List.set_cons_succ])
  refine wpAnyH_ready (rs := [6]) (by kernel_rfl) (by simp) ?_
  refine AllReadyH.cons rfl (fun K hK => ?_) AllReadyH.nil
  go_simp
  refine (writeTop_any (HPD.out _) HFS.out (R.extract 0 1) (by simp; omega) (by omega)).mono ?_
  rintro e w4 ⟨rfl, col4, cs4, h4, st4⟩
  have st5 := st4.undrew
  have H4 := Lib.hid h4
  have ST4 := Lib.hid st5
  have z0 := h4.hp.cell 0
  clear h4 st4 st5
  go_wp2_with fail
  refine hK.out _ _ ?_ (fun hHeld2 => ?_)
  · (try dsimp only)
    first | exact C0.out | exact z0
  clear hK K hHeld1
  (try simp only [Act.put, List.setIfInBounds_toArray, List.set_cons_zero, List.set_cons_succ])
  refine wpAnyH_done (by kernel_rfl) ?_ _
  go_wp2
  go_ret
  refine ⟨rfl, col4, ob, cap, fv, cs4, gn, ?_, ST4.out⟩
  have e : (R.extract 0 1).data.toList = [s.data.toList.getD i 0] := RX.out
  have H5 := H4.out
  rw [e] at H5
  rw [writeLen, ← HL.out]
  exact H5.on (by omega)
set_option maxRecDepth 100000 in
set_option maxHeartbeats 2000000 in
theorem step_last (h : PSx Tryz.prog w B col pb ob cap len s st i fv gb cs gn) (hl : len = st.fs.length) (hI : Inv st i) (hi : i < s.size) (hs : s.size ≤ 100000) (m : Int) (hm : w.cell? ⟨0, 0, none⟩ = some (.int .i64 m)) (hB : 0 < B) (hc : s.data.toList.getD i 0 = 93) (hn : lastK 6 st.fs = 0) :
    Calls Tryz.prog 26 #[.pointer (some ⟨pb, 0, none⟩), .int .i64 (i : Int)] w fun e w' => e = .returned (.int .i64 ((i + 1 : Nat) : Int)) ∧ StepPost B pb s gb w col (st.write [s.data.toList.getD i 0]) (i + 1) w' := by
  have h17 := hI.2.2.2
  have h1 := hI.2.2.1
  have c0 := h.hp.cell 0
  obtain ⟨f, r, hfs⟩ : ∃ f r, st.fs = f :: r := by
    match hq : st.fs, hI.2.2.1 with
    | f :: r, _ => exact ⟨f, r, rfl⟩
    | [], hq2 => simp at hq2
  have hftx : f.row.tx.length ≤ 100000 := by
    have := hI.1
    rw [hfs, wtFs_cons] at this
    unfold wtF wtR at this
    omega
  have hflt : st.faults.length ≤ 10000000 := by have := hI.2.1; omega
  have HLR : Hid (len = r.length + 1) := by unfold Hid; rw [hl, hfs]; rfl
  have hr17 : r.length ≤ 17 := by have := HLR.out; omega
  have rz : (s.extract i s.size).size = s.size - i := by simp
  have rz1 : 0 < (s.extract i s.size).size := by omega
  have rz2 : (s.extract i s.size).size ≤ 100000 := by omega
  have G0 : Hid ((s.extract i s.size)[0]'rz1 = s.data.toList.getD i 0) := rest_get (s := s) (i := i) 0 rz1
  have RL := Lib.hid (rest_list s i)
  have q92 : ((((s.extract i s.size)[0]'rz1).toNat : Int) == 92) = false := by
    rw [G0.out]; exact neB (d := 92) rfl (by rw [hc]; decide)
  have q96 : ((((s.extract i s.size)[0]'rz1).toNat : Int) == 96) = false := by
    rw [G0.out]; exact neB (d := 96) rfl (by rw [hc]; decide)
  have q93 : ((((s.extract i s.size)[0]'rz1).toNat : Int) == 93) = true := by
    rw [G0.out]; exact isB (d := 93) rfl hc
  have q42 : ((((s.extract i s.size)[0]'rz1).toNat : Int) == 42) = false := by
    rw [G0.out]; exact neB (d := 42) rfl (by rw [hc]; decide)
  have q95 : ((((s.extract i s.size)[0]'rz1).toNat : Int) == 95) = false := by
    rw [G0.out]; exact neB (d := 95) rfl (by rw [hc]; decide)
  have p60 : ∀ w, Calls Tryz.prog 51 #[.string (s.extract i s.size), .string ⟨#[60, 60]⟩] w fun e w' => e = .returned (.bool false) ∧ w' = w := fun w => by
    have := Tryz.strings_HasPrefix (s.extract i s.size) ⟨#[60, 60]⟩ w
    rw [pre_hasPrefix, RL.out, show (ByteArray.mk #[60, 60]).data.toList = [60, 60] from rfl, pre_ne (by simpa using hi) (by rw [hc]; decide)] at this
    exact this
  have p40 : ∀ w, Calls Tryz.prog 51 #[.string (s.extract i s.size), .string ⟨#[40, 40]⟩] w fun e w' => e = .returned (.bool false) ∧ w' = w := fun w => by
    have := Tryz.strings_HasPrefix (s.extract i s.size) ⟨#[40, 40]⟩ w
    rw [pre_hasPrefix, RL.out, show (ByteArray.mk #[40, 40]).data.toList = [40, 40] from rfl, pre_ne (by simpa using hi) (by rw [hc]; decide)] at this
    exact this
  have p94 : ∀ w, Calls Tryz.prog 51 #[.string (s.extract i s.size), .string ⟨#[94, 91]⟩] w fun e w' => e = .returned (.bool false) ∧ w' = w := fun w => by
    have := Tryz.strings_HasPrefix (s.extract i s.size) ⟨#[94, 91]⟩ w
    rw [pre_hasPrefix, RL.out, show (ByteArray.mk #[94, 91]).data.toList = [94, 91] from rfl, pre_ne (by simpa using hi) (by rw [hc]; decide)] at this
    exact this
  have e1 : IntKind.i64.wrap ((i : Int) + 1) = ((i + 1 : Nat) : Int) := by rw [show (i : Int) + 1 = ((i + 1 : Nat) : Int) by omega]; exact IntWalk.i64_in _ (by omega)
  have RX : Hid (((s.extract i s.size).extract 0 1).data.toList = [s.data.toList.getD i 0]) := by
    unfold Hid
    rw [cut_list, rest_list, List.drop_drop]
    have hlt : i < s.data.toList.length := by simpa using hi
    rw [Nat.add_zero, List.drop_eq_getElem_cons hlt, List.getD_eq_getElem?_getD, List.getElem?_eq_getElem hlt]
    rfl
  have cl := last_any h hl (by omega) (by omega) 6
  rw [hn] at cl
  have C0 := Lib.hid c0
  have H := Lib.hid h
  have HPD := Lib.hid (fun k => PSx.drewN h k)
  have HFS := Lib.hid hfs
  have HL := Lib.hid hl
  have HI := Lib.hid hI
  have rz4 : (1 : Int) ≤ ((s.extract i s.size).size : Int) := by omega
  clear hc hn hm hI h1 h17 h hl hfs G0 RL
  obtain ⟨R, hR⟩ : ∃ R, s.extract i s.size = R := ⟨_, rfl⟩
  rw [hR] at rz
  have RZ := Lib.hid rz
  clear rz
  simp only [hR] at rz1 rz2 q92 q96 q93 q42 q95 p60 p40 p94 RX rz4
  go_enter Tryz.func26, Tryz.ntmps26
  go_wp2_with (first
    | (go_at_call 51; (with_reducible refine (p60 _).mono ?_); rintro e w' ⟨rfl, rfl⟩)
    | (go_at_call 51; (with_reducible refine (p40 _).mono ?_); rintro e w' ⟨rfl, rfl⟩)
    | (go_at_call 51; (with_reducible refine (p94 _).mono ?_); rintro e w' ⟨rfl, rfl⟩)
    | (go_at_call 57; refine cl.mono ?_; rintro e w' ⟨rfl, rfl⟩)
    | fail)
  refine wp_region_held_drew (S := (fun w' => w'.cell? ⟨pb, 0, none⟩ = some (.string s))) (by kernel_rfl) ?_ (fun hHeld0 => ?_)
  · (try dsimp only)
    first | exact C0.out | exact z0
  refine wpAnyH_take (i := 0) (v := ?_) rfl (by kernel_rfl) (by kernel_rfl) (by kernel_rfl) (fun _ _ _ h => h) (Or.inl ⟨by kernel_rfl, ?_⟩) (by assumption) ?_
  rotate_left
  · (intro w hSw; (try dsimp only at hSw); go_simp; (first | done | with_reducible rfl))
  (try simp only [Act.put, List.setIfInBounds_toArray, List.set_cons_zero, List.set_cons_succ])
  refine wpAnyH_take (i := 4) (v := ?_) rfl (by kernel_rfl) (by kernel_rfl) (by kernel_rfl) (fun _ _ _ h => h) (Or.inl ⟨by kernel_rfl, ?_⟩) (by assumption) ?_
  rotate_left
  · (intro w hSw; (try dsimp only at hSw); go_simp; (first | done | with_reducible rfl))
  (try simp only [Act.put, List.setIfInBounds_toArray, List.set_cons_zero, List.set_cons_succ])
  refine wpAnyH_take (i := 5) (v := ?_) rfl (by kernel_rfl) (by kernel_rfl) (by kernel_rfl) (fun _ _ _ h => h) (Or.inl ⟨by kernel_rfl, ?_⟩) (by assumption) ?_
  rotate_left
  · (intro w hSw; (try dsimp only at hSw); go_simp; (first | done | with_reducible rfl))
  (try simp only [Act.put, List.setIfInBounds_toArray, List.set_cons_zero, List.set_cons_succ])
  refine wpAnyH_ready (rs := [1]) (by kernel_rfl) (by simp) ?_
  refine AllReadyH.cons rfl (fun K hK => ?_) AllReadyH.nil
  go_simp
  refine (top_any (n := r.length) (by rw [← HLR.out]; exact HPD.out _) (by omega)).mono ?_
  rintro e w3 ⟨rfl, kk, rfl⟩
  go_wp2_with fail
  refine hK.out _ _ ?_ (fun hHeld1 => ?_)
  · (try dsimp only)
    first | exact C0.out | exact z0
  clear hK K hHeld0
  (try simp only [Act.put, List.setIfInBounds_toArray, List.set_cons_zero, List.set_cons_succ])
  refine wpAnyH_take (i := 2) (v := ?_) rfl (by kernel_rfl) (by kernel_rfl) (by kernel_rfl) (fun _ _ _ h => h) (Or.inl ⟨by kernel_rfl, ?_⟩) (by assumption) ?_
  rotate_left
  · (intro w hSw; (try dsimp only at hSw); go_simp; (first | done | with_reducible rfl))
  (try simp only [Act.put, List.setIfInBounds_toArray, List.set_cons_zero, List.set_cons_succ])
  refine wpAnyH_take (i := 3) (v := ?_) rfl (by kernel_rfl) (by kernel_rfl) (by kernel_rfl) (fun _ _ _ h => h) (Or.inl ⟨by kernel_rfl, ?_⟩) (by assumption) ?_
  rotate_left
  · (intro w hSw; (try dsimp only at hSw); go_simp; (first | done | with_reducible rfl))
  (try simp only [Act.put, List.setIfInBounds_toArray, List.set_cons_zero, List.set_cons_succ])
  refine wpAnyH_ready (rs := [6]) (by kernel_rfl) (by simp) ?_
  refine AllReadyH.cons rfl (fun K hK => ?_) AllReadyH.nil
  go_simp
  refine (writeTop_any (HPD.out _) HFS.out (R.extract 0 1) (by simp; omega) (by omega)).mono ?_
  rintro e w4 ⟨rfl, col4, cs4, h4, st4⟩
  have st5 := st4.undrew
  have H4 := Lib.hid h4
  have ST4 := Lib.hid st5
  have z0 := h4.hp.cell 0
  clear h4 st4 st5
  go_wp2_with fail
  refine hK.out _ _ ?_ (fun hHeld2 => ?_)
  · (try dsimp only)
    first | exact C0.out | exact z0
  clear hK K hHeld1
  (try simp only [Act.put, List.setIfInBounds_toArray, List.set_cons_zero, List.set_cons_succ])
  refine wpAnyH_done (by kernel_rfl) ?_ _
  go_wp2
  go_ret
  refine ⟨rfl, col4, ob, cap, fv, cs4, gn, ?_, ST4.out⟩
  have e : (R.extract 0 1).data.toList = [s.data.toList.getD i 0] := RX.out
  have H5 := H4.out
  rw [e] at H5
  rw [writeLen, ← HL.out]
  exact H5.on (by omega)
set_option maxRecDepth 100000 in
set_option maxHeartbeats 2000000 in
theorem step_text (h : PSx Tryz.prog w B col pb ob cap len s st i fv gb cs gn) (hl : len = st.fs.length) (hI : Inv st i) (hi : i < s.size) (hs : s.size ≤ 100000) (m : Int) (hm : w.cell? ⟨0, 0, none⟩ = some (.int .i64 m)) (hB : 0 < B) (n92 : s.data.toList.getD i 0 ≠ 92) (n96 : s.data.toList.getD i 0 ≠ 96) (n93 : s.data.toList.getD i 0 ≠ 93) (n42 : s.data.toList.getD i 0 ≠ 42) (n95 : s.data.toList.getD i 0 ≠ 95) (m60 : [60, 60].isPrefixOf (s.data.toList.drop i) = false) (m40 : [40, 40].isPrefixOf (s.data.toList.drop i) = false) (m94 : [94, 91].isPrefixOf (s.data.toList.drop i) = false) :
    Calls Tryz.prog 26 #[.pointer (some ⟨pb, 0, none⟩), .int .i64 (i : Int)] w fun e w' => e = .returned (.int .i64 ((i + 1 : Nat) : Int)) ∧ StepPost B pb s gb w col (st.write [s.data.toList.getD i 0]) (i + 1) w' := by
  have h17 := hI.2.2.2
  have h1 := hI.2.2.1
  have c0 := h.hp.cell 0
  obtain ⟨f, r, hfs⟩ : ∃ f r, st.fs = f :: r := by
    match hq : st.fs, hI.2.2.1 with
    | f :: r, _ => exact ⟨f, r, rfl⟩
    | [], hq2 => simp at hq2
  have hftx : f.row.tx.length ≤ 100000 := by
    have := hI.1
    rw [hfs, wtFs_cons] at this
    unfold wtF wtR at this
    omega
  have hflt : st.faults.length ≤ 10000000 := by have := hI.2.1; omega
  have HLR : Hid (len = r.length + 1) := by unfold Hid; rw [hl, hfs]; rfl
  have hr17 : r.length ≤ 17 := by have := HLR.out; omega
  have rz : (s.extract i s.size).size = s.size - i := by simp
  have rz1 : 0 < (s.extract i s.size).size := by omega
  have rz2 : (s.extract i s.size).size ≤ 100000 := by omega
  have G0 : Hid ((s.extract i s.size)[0]'rz1 = s.data.toList.getD i 0) := rest_get (s := s) (i := i) 0 rz1
  have RL := Lib.hid (rest_list s i)
  have q92 : ((((s.extract i s.size)[0]'rz1).toNat : Int) == 92) = false := by
    rw [G0.out]; exact neB (d := 92) rfl n92
  have q96 : ((((s.extract i s.size)[0]'rz1).toNat : Int) == 96) = false := by
    rw [G0.out]; exact neB (d := 96) rfl n96
  have q93 : ((((s.extract i s.size)[0]'rz1).toNat : Int) == 93) = false := by
    rw [G0.out]; exact neB (d := 93) rfl n93
  have q42 : ((((s.extract i s.size)[0]'rz1).toNat : Int) == 42) = false := by
    rw [G0.out]; exact neB (d := 42) rfl n42
  have q95 : ((((s.extract i s.size)[0]'rz1).toNat : Int) == 95) = false := by
    rw [G0.out]; exact neB (d := 95) rfl n95
  have p60 : ∀ w, Calls Tryz.prog 51 #[.string (s.extract i s.size), .string ⟨#[60, 60]⟩] w fun e w' => e = .returned (.bool false) ∧ w' = w := fun w => by
    have := Tryz.strings_HasPrefix (s.extract i s.size) ⟨#[60, 60]⟩ w
    rw [pre_hasPrefix, RL.out, show (ByteArray.mk #[60, 60]).data.toList = [60, 60] from rfl, m60] at this
    exact this
  have p40 : ∀ w, Calls Tryz.prog 51 #[.string (s.extract i s.size), .string ⟨#[40, 40]⟩] w fun e w' => e = .returned (.bool false) ∧ w' = w := fun w => by
    have := Tryz.strings_HasPrefix (s.extract i s.size) ⟨#[40, 40]⟩ w
    rw [pre_hasPrefix, RL.out, show (ByteArray.mk #[40, 40]).data.toList = [40, 40] from rfl, m40] at this
    exact this
  have p94 : ∀ w, Calls Tryz.prog 51 #[.string (s.extract i s.size), .string ⟨#[94, 91]⟩] w fun e w' => e = .returned (.bool false) ∧ w' = w := fun w => by
    have := Tryz.strings_HasPrefix (s.extract i s.size) ⟨#[94, 91]⟩ w
    rw [pre_hasPrefix, RL.out, show (ByteArray.mk #[94, 91]).data.toList = [94, 91] from rfl, m94] at this
    exact this
  have e1 : IntKind.i64.wrap ((i : Int) + 1) = ((i + 1 : Nat) : Int) := by rw [show (i : Int) + 1 = ((i + 1 : Nat) : Int) by omega]; exact IntWalk.i64_in _ (by omega)
  have RX : Hid (((s.extract i s.size).extract 0 1).data.toList = [s.data.toList.getD i 0]) := by
    unfold Hid
    rw [cut_list, rest_list, List.drop_drop]
    have hlt : i < s.data.toList.length := by simpa using hi
    rw [Nat.add_zero, List.drop_eq_getElem_cons hlt, List.getD_eq_getElem?_getD, List.getElem?_eq_getElem hlt]
    rfl
  have C0 := Lib.hid c0
  have H := Lib.hid h
  have HPD := Lib.hid (fun k => PSx.drewN h k)
  have HFS := Lib.hid hfs
  have HL := Lib.hid hl
  have HI := Lib.hid hI
  have rz4 : (1 : Int) ≤ ((s.extract i s.size).size : Int) := by omega
  clear n92 n96 n93 n42 n95 m60 m40 m94 hm hI h1 h17 h hl hfs G0 RL
  obtain ⟨R, hR⟩ : ∃ R, s.extract i s.size = R := ⟨_, rfl⟩
  rw [hR] at rz
  have RZ := Lib.hid rz
  clear rz
  simp only [hR] at rz1 rz2 q92 q96 q93 q42 q95 p60 p40 p94 RX rz4
  go_enter Tryz.func26, Tryz.ntmps26
  go_wp2_with (first
    | (go_at_call 51; (with_reducible refine (p60 _).mono ?_); rintro e w' ⟨rfl, rfl⟩)
    | (go_at_call 51; (with_reducible refine (p40 _).mono ?_); rintro e w' ⟨rfl, rfl⟩)
    | (go_at_call 51; (with_reducible refine (p94 _).mono ?_); rintro e w' ⟨rfl, rfl⟩)
    | fail)
  refine wp_region_held_drew (S := (fun w' => w'.cell? ⟨pb, 0, none⟩ = some (.string s))) (by kernel_rfl) ?_ (fun hHeld0 => ?_)
  · (try dsimp only)
    first | exact C0.out | exact z0
  refine wpAnyH_take (i := 0) (v := ?_) rfl (by kernel_rfl) (by kernel_rfl) (by kernel_rfl) (fun _ _ _ h => h) (Or.inl ⟨by kernel_rfl, ?_⟩) (by assumption) ?_
  rotate_left
  · (intro w hSw; (try dsimp only at hSw); go_simp; (first | done | with_reducible rfl))
  (try simp only [Act.put, List.setIfInBounds_toArray, List.set_cons_zero, List.set_cons_succ])
  refine wpAnyH_take (i := 4) (v := ?_) rfl (by kernel_rfl) (by kernel_rfl) (by kernel_rfl) (fun _ _ _ h => h) (Or.inl ⟨by kernel_rfl, ?_⟩) (by assumption) ?_
  rotate_left
  · (intro w hSw; (try dsimp only at hSw); go_simp; (first | done | with_reducible rfl))
  (try simp only [Act.put, List.setIfInBounds_toArray, List.set_cons_zero, List.set_cons_succ])
  refine wpAnyH_take (i := 5) (v := ?_) rfl (by kernel_rfl) (by kernel_rfl) (by kernel_rfl) (fun _ _ _ h => h) (Or.inl ⟨by kernel_rfl, ?_⟩) (by assumption) ?_
  rotate_left
  · (intro w hSw; (try dsimp only at hSw); go_simp; (first | done | with_reducible rfl))
  (try simp only [Act.put, List.setIfInBounds_toArray, List.set_cons_zero, List.set_cons_succ])
  refine wpAnyH_ready (rs := [1]) (by kernel_rfl) (by simp) ?_
  refine AllReadyH.cons rfl (fun K hK => ?_) AllReadyH.nil
  go_simp
  refine (top_any (n := r.length) (by rw [← HLR.out]; exact HPD.out _) (by omega)).mono ?_
  rintro e w3 ⟨rfl, kk, rfl⟩
  go_wp2_with fail
  refine hK.out _ _ ?_ (fun hHeld1 => ?_)
  · (try dsimp only)
    first | exact C0.out | exact z0
  clear hK K hHeld0
  (try simp only [Act.put, List.setIfInBounds_toArray, List.set_cons_zero, List.set_cons_succ])
  refine wpAnyH_take (i := 2) (v := ?_) rfl (by kernel_rfl) (by kernel_rfl) (by kernel_rfl) (fun _ _ _ h => h) (Or.inl ⟨by kernel_rfl, ?_⟩) (by assumption) ?_
  rotate_left
  · (intro w hSw; (try dsimp only at hSw); go_simp; (first | done | with_reducible rfl))
  (try simp only [Act.put, List.setIfInBounds_toArray, List.set_cons_zero, List.set_cons_succ])
  refine wpAnyH_take (i := 3) (v := ?_) rfl (by kernel_rfl) (by kernel_rfl) (by kernel_rfl) (fun _ _ _ h => h) (Or.inl ⟨by kernel_rfl, ?_⟩) (by assumption) ?_
  rotate_left
  · (intro w hSw; (try dsimp only at hSw); go_simp; (first | done | with_reducible rfl))
  (try simp only [Act.put, List.setIfInBounds_toArray, List.set_cons_zero, List.set_cons_succ])
  refine wpAnyH_ready (rs := [6]) (by kernel_rfl) (by simp) ?_
  refine AllReadyH.cons rfl (fun K hK => ?_) AllReadyH.nil
  go_simp
  refine (writeTop_any (HPD.out _) HFS.out (R.extract 0 1) (by simp; omega) (by omega)).mono ?_
  rintro e w4 ⟨rfl, col4, cs4, h4, st4⟩
  have st5 := st4.undrew
  have H4 := Lib.hid h4
  have ST4 := Lib.hid st5
  have z0 := h4.hp.cell 0
  clear h4 st4 st5
  go_wp2_with fail
  refine hK.out _ _ ?_ (fun hHeld2 => ?_)
  · (try dsimp only)
    first | exact C0.out | exact z0
  clear hK K hHeld1
  (try simp only [Act.put, List.setIfInBounds_toArray, List.set_cons_zero, List.set_cons_succ])
  refine wpAnyH_done (by kernel_rfl) ?_ _
  go_wp2
  go_ret
  refine ⟨rfl, col4, ob, cap, fv, cs4, gn, ?_, ST4.out⟩
  have e : (R.extract 0 1).data.toList = [s.data.toList.getD i 0] := RX.out
  have H5 := H4.out
  rw [e] at H5
  rw [writeLen, ← HL.out]
  exact H5.on (by omega)
theorem step_any (h : PSx Tryz.prog w B col pb ob cap len s st i fv gb cs gn) (hl : len = st.fs.length) (hI : Inv st i) (hi : i < s.size) (hs : s.size ≤ 100000) (m : Int) (hm : w.cell? ⟨0, 0, none⟩ = some (.int .i64 m)) (hB : 0 < B) :
    Calls Tryz.prog 26 #[.pointer (some ⟨pb, 0, none⟩), .int .i64 (i : Int)] w fun e w' => e = .returned (.int .i64 (((st.step s.data.toList i).2 : Nat) : Int)) ∧ StepPost B pb s gb w col (st.step s.data.toList i).1 (st.step s.data.toList i).2 w' := by
  have hlen : s.data.toList.length = s.size := by simp
  have hil : i < s.data.toList.length := by omega
  have head : ∀ {a b : UInt8}, [a, b].isPrefixOf (s.data.toList.drop i) = true → s.data.toList.getD i 0 = a := fun {a b} hp => by
    rw [drop_cons hil, List.isPrefixOf] at hp
    simp only [Bool.and_eq_true, beq_iff_eq] at hp
    exact hp.1.symm
  unfold Pst.step
  rw [hlen]
  split
  · rename_i hc
    exact step_esc h hl hI hi hs m hm hB hc.1 hc.2.1 hc.2.2
  rename_i k92
  split
  · rename_i hc; exact step_code h hl hI hi hs m hm hB hc
  rename_i k96
  split
  · rename_i hp; exact step_ref h hl hI hi hs m hm hB (head hp) hp
  rename_i k60
  split
  · rename_i hp; exact step_term h hl hI hi hs m hm hB (head hp) hp
  rename_i k40
  split
  · rename_i hp
    cases hr : st.room with
    | true => exact step_note h hl hI hi hs m hm hB (head hp) hp hr
    | false => exact step_full h hl hI hi hs m hm hB (head hp) hp hr
  rename_i k94
  split
  · rename_i hc; exact step_shut h hl hI hi hs m hm hB hc.1 hc.2
  rename_i k93
  split
  · rename_i hc; exact step_starW h hl hI hi hs m hm hB hc
  rename_i k42
  split
  · rename_i hc; exact step_barW h hl hI hi hs m hm hB hc
  rename_i k95
  simp only [Bool.not_eq_true] at k60 k40 k94
  by_cases e92 : s.data.toList.getD i 0 = 92
  · by_cases en : i + 1 < s.size
    · exact step_back h hl hI hi hs m hm hB e92 en (by
        cases he : escB (s.data.toList.getD (i + 1) 0) with
        | false => rfl
        | true => exact absurd ⟨e92, en, he⟩ k92)
    · exact step_short h hl hI hi hs m hm hB e92 en
  · by_cases e93 : s.data.toList.getD i 0 = 93
    · exact step_last h hl hI hi hs m hm hB e93 (by
        by_cases e0 : 0 < lastK 6 st.fs
        · exact absurd ⟨e93, e0⟩ k93
        · omega)
    · exact step_text h hl hI hi hs m hm hB e92 k96 e93 k42 k95 k60 k40 k94
end
end Go.Proofs.YtmdbhdhfdldegaaGreatDoor
namespace Go.Bd
def keys (st : Pst) : List Nat := st.faults.map (·.1) ++ st.fs.dropLast.map (·.at')
structure Dst (st : Pst) (i : Nat) : Prop where
  nd : (keys st).Nodup
  lt : ∀ k ∈ keys st, k < i
theorem keys_top (st : Pst) (g : Rw → Rw) : keys (st.top g) = keys st := by
  obtain ⟨fs, fa⟩ := st
  cases fs with
  | nil => rfl
  | cons f r => cases r <;> rfl
theorem Dst.first : Dst Pst.first 0 := ⟨by simp [keys, Pst.first], by simp [keys, Pst.first]⟩
theorem Dst.top {st : Pst} {i j : Nat} (h : Dst st i) (hj : i ≤ j) (g : Rw → Rw) : Dst (st.top g) j :=
  ⟨by rw [keys_top]; exact h.nd, fun k hk => by rw [keys_top] at hk; have := h.lt k hk; omega⟩
theorem Dst.write {st : Pst} {i j : Nat} (h : Dst st i) (hj : i ≤ j) (s : Bs) : Dst (st.write s) j := h.top hj _
theorem Dst.of_perm {a b : Pst} {i j : Nat} (h : Dst a i) (hj : i ≤ j) (hp : List.Perm (keys a) (keys b)) : Dst b j :=
  ⟨hp.nodup_iff.1 h.nd, fun k hk => by have := h.lt k (hp.mem_iff.2 hk); omega⟩
theorem Dst.of_new {a b : Pst} {i j : Nat} (h : Dst a i) (hj : i < j) (hp : List.Perm (keys b) (i :: keys a)) : Dst b j :=
  ⟨hp.nodup_iff.2 (List.nodup_cons.2 ⟨fun hm => by have := h.lt i hm; omega, h.nd⟩), fun k hk => by
    rcases List.mem_cons.1 (hp.mem_iff.1 hk) with rfl | hk
    · exact hj
    · have := h.lt k hk; omega⟩
theorem keys_tell (st : Pst) (a f : Nat) : List.Perm (keys (st.tell a f)) (a :: keys st) := by
  simp only [keys, Pst.tell, List.map_append, List.map_cons, List.map_nil, List.append_assoc, List.cons_append, List.nil_append]
  exact List.perm_middle
theorem Dst.tell {st : Pst} {i j : Nat} (h : Dst st i) (hj : i < j) (f : Nat) : Dst (st.tell i f) j := h.of_new hj (keys_tell st i f)
theorem keys_drop1 {st : Pst} (h2 : 2 ≤ st.fs.length) : List.Perm (keys st) (keys st.drop1) := by
  obtain ⟨fs, fa⟩ := st
  match fs, h2 with
  | f :: g :: r, _ =>
    have e : ((onTop (spill f) (g :: r)).dropLast).map (·.at') = ((g :: r).dropLast).map (·.at') := by cases r <;> rfl
    simp only [keys, Pst.drop1, e, List.map_append, List.map_cons, List.map_nil, List.append_assoc, List.cons_append, List.nil_append, List.dropLast_cons_cons]
    exact List.Perm.refl _
theorem keys_dropN : ∀ (n : Nat) {st : Pst}, n + 1 ≤ st.fs.length → List.Perm (keys st) (keys (st.dropN n))
  | 0, _, _ => List.Perm.refl _
  | n + 1, st, h => by
    have h1 := drop1_length (st := st) (by omega)
    exact (keys_drop1 (by omega)).trans (keys_dropN n (by omega))
theorem keys_drop {st : Pst} (n : Nat) (h : 1 ≤ st.fs.length) : List.Perm (keys st) (keys (st.drop n)) := keys_dropN _ (by omega)
theorem keys_shut (st : Pst) (h2 : 2 ≤ st.fs.length) : ∃ k, List.Perm (keys st) (k :: keys st.shut) := by
  obtain ⟨fs, fa⟩ := st
  match fs, h2 with
  | f :: g :: r, _ =>
    have e : ∀ q, ((onTop q (g :: r)).dropLast).map (·.at') = ((g :: r).dropLast).map (·.at') := fun q => by cases r <;> rfl
    refine ⟨f.at', ?_⟩
    simp only [keys, Pst.shut, e, List.map_cons, List.dropLast_cons_cons]
    exact List.perm_middle
theorem Dst.fin {st : Pst} {i j n : Nat} (h : Dst st i) (hI : Inv st i) (hj : i ≤ j) (h0 : 0 < n) (hn : n < st.fs.length) : Dst (st.fin n) j := by
  have h1 := h.of_perm (Nat.le_refl _) (keys_drop n (by omega))
  obtain ⟨k, hk⟩ := keys_shut (st.drop n) (by have := (hI.drop hn).2; omega)
  unfold Pst.fin
  have hnd := hk.nodup_iff.1 h1.nd
  refine ⟨(List.nodup_cons.1 hnd).2, fun q hq => ?_⟩
  have := h1.lt q (hk.mem_iff.2 (List.mem_cons_of_mem _ hq))
  omega
theorem Dst.begin {st : Pst} {i j : Nat} (h : Dst st i) (h1 : 1 ≤ st.fs.length) (hj : i < j) (k : Nat) (sign : Bs) : Dst (st.begin k i sign) j := by
  refine h.of_new hj ?_
  obtain ⟨fs, fa⟩ := st
  match fs, h1 with
  | f :: r, _ =>
    simp only [keys, Pst.begin, List.dropLast_cons_cons, List.map_cons]
    exact List.perm_middle
theorem Dst.between {st : Pst} {s a b : Bs} {i : Nat} {asf : Bs → Sp ⊕ Nat} (h : Dst st i) (ha : 1 ≤ a.length) (hi : i + a.length ≤ s.length) : Dst (st.between s i a b asf).1 (st.between s i a b asf).2 := by
  unfold Pst.between
  split
  · exact (h.write (Nat.le_refl i) a).tell (by simp only; omega) _
  · rename_i n hn
    obtain ⟨h1, h2⟩ := nextAt_some hi hn
    split
    · exact (h.write (Nat.le_refl i) _).tell (by simp only; omega) _
    · exact h.top (by simp only; omega) _
theorem Dst.mark {st : Pst} {s : Bs} {i k : Nat} (h : Dst st i) (hI : Inv st i) : Dst (st.mark s i k) (i + 1) := by
  unfold Pst.mark
  split
  · rename_i hc
    rcases lastK_lt k st.fs with h0 | h0
    · omega
    · exact h.fin hI (by omega) hc.1 h0
  · split
    · exact h.write (by omega) _
    · split
      · exact (h.write (Nat.le_refl i) _).tell (by omega) _
      · exact h.begin hI.2.2.1 (by omega) _ _
theorem Dst.step {st : Pst} {s : Bs} {i : Nat} (h : Dst st i) (hI : Inv st i) (hi : i < s.length) : Dst (st.step s i).1 (st.step s i).2 := by
  unfold Pst.step
  split
  · exact h.write (by simp only; omega) _
  split
  · exact h.between (by simp) (by simp; omega)
  split
  · rename_i hp
    exact h.between (by simp) (prefix_two hp)
  split
  · rename_i hp
    exact h.between (by simp) (prefix_two hp)
  split
  · simp only
    split
    · exact h.begin hI.2.2.1 (by omega) _ _
    · exact (h.write (Nat.le_refl i) _).tell (by omega) _
  split
  · rename_i hc
    rcases lastK_lt 6 st.fs with h0 | h0
    · omega
    · exact h.fin hI (by simp only; omega) hc.2 h0
  split
  · exact h.mark hI
  split
  · exact h.mark hI
  · exact h.write (by simp only; omega) _
theorem Dst.run {s : Bs} : ∀ (n i : Nat) (st : Pst), Inv st i → Dst st i → ∃ j, Dst (runP s n i st) j
  | 0, i, st, _, h => ⟨i, h⟩
  | n + 1, i, st, hI, h => by
    rw [runP]
    split
    · rename_i hlt
      obtain ⟨h3, h4, h5⟩ := hI.step hlt
      exact Dst.run n _ _ h3 (h.step hI hlt)
    · exact ⟨i, h⟩
theorem faults_nodup (s : Bs) : ((faultsAt s).map (·.1)).Nodup := by
  obtain ⟨j, hj⟩ := Dst.run (s := s) s.length 0 Pst.first Inv.first Dst.first
  have hI := Inv.run (s := s) s.length 0 Pst.first Inv.first (Nat.zero_le _) (by omega)
  have h := hj.of_perm (Nat.le_refl _) (keys_drop 0 hI.2.2.1)
  exact (List.nodup_append.1 h.nd).1
def insF (p : Nat × Nat) : List (Nat × Nat) → List (Nat × Nat)
  | [] => [p]
  | q :: l => if p.1 ≤ q.1 then p :: q :: l else q :: insF p l
def sortF : List (Nat × Nat) → List (Nat × Nat)
  | [] => []
  | p :: l => insF p (sortF l)
theorem insF_perm (p : Nat × Nat) : ∀ l, List.Perm (insF p l) (p :: l)
  | [] => List.Perm.refl _
  | q :: l => by
    unfold insF
    split
    · exact List.Perm.refl _
    · exact ((insF_perm p l).cons q).trans (List.Perm.swap _ _ _)
theorem sortF_perm : ∀ l, List.Perm (sortF l) l
  | [] => List.Perm.refl _
  | p :: l => (insF_perm p _).trans ((sortF_perm l).cons p)
theorem insF_sorted (p : Nat × Nat) : ∀ l : List (Nat × Nat), l.Pairwise (fun a b => a.1 ≤ b.1) → (insF p l).Pairwise (fun a b => a.1 ≤ b.1)
  | [], _ => by simp [insF]
  | q :: l, h => by
    unfold insF
    obtain ⟨h1, h2⟩ := List.pairwise_cons.1 h
    split
    · rename_i hc
      refine List.pairwise_cons.2 ⟨fun x hx => ?_, h⟩
      rcases List.mem_cons.1 hx with rfl | hx
      · exact hc
      · have := h1 x hx; omega
    · rename_i hc
      refine List.pairwise_cons.2 ⟨fun x hx => ?_, insF_sorted p l h2⟩
      rcases List.mem_cons.1 ((insF_perm p l).mem_iff.1 hx) with rfl | hx
      · omega
      · exact h1 x hx
theorem sortF_sorted : ∀ l : List (Nat × Nat), (sortF l).Pairwise (fun a b => a.1 ≤ b.1)
  | [] => List.Pairwise.nil
  | p :: l => insF_sorted p _ (sortF_sorted l)
theorem inj_keys : ∀ {b : List (Nat × Nat)}, (b.map (·.1)).Nodup → ∀ {x y}, x ∈ b → y ∈ b → x.1 = y.1 → x = y
  | [], _, _, _, hx, _, _ => by cases hx
  | p :: b, hn, x, y, hx, hy, e => by
    obtain ⟨h1, h2⟩ := List.nodup_cons.1 hn
    rcases List.mem_cons.1 hx with rfl | hx' <;> rcases List.mem_cons.1 hy with rfl | hy'
    · rfl
    · exact (h1 (List.mem_map.2 ⟨y, hy', e.symm⟩)).elim
    · exact (h1 (List.mem_map.2 ⟨x, hx', e⟩)).elim
    · exact inj_keys h2 hx' hy' e
theorem sort_unique {a b : List (Nat × Nat)} (hp : List.Perm a b) (hn : (b.map (·.1)).Nodup) (ha : a.Pairwise (fun x y => x.1 ≤ y.1)) (hb : b.Pairwise (fun x y => x.1 ≤ y.1)) : a = b := by
  refine hp.eq_of_pairwise (le := fun x y : Nat × Nat => x.1 ≤ y.1) (fun x y hx hy h1 h2 => ?_) ha hb
  have e : x.1 = y.1 := by omega
  have hx' : x ∈ b := hp.mem_iff.1 hx
  exact inj_keys hn hx' hy e
def faultsOf (s : Bs) : List Nat := (sortF (faultsAt s)).map (·.2)
end Go.Bd
namespace Go.Bd
open Go.RowKit Go.Sort
def encT (p : Nat × Nat) : List Value := [.int .i64 (p.1 : Int), .int .i64 (p.2 : Int)]
def cfT (x y : Nat × Nat) : Int := Lib.compareInt (x.1 : Int) (y.1 : Int)
theorem ltT (x y : Nat × Nat) : Go.Proofs.ltOf cfT x y = decide (x.1 < y.1) := by
  unfold Go.Proofs.ltOf cfT Lib.compareInt
  by_cases h1 : x.1 < y.1
  · simp [h1]
  · by_cases h2 : y.1 < x.1 <;> simp [h1, h2]
theorem swoT : SWO (Go.Proofs.ltOf cfT) where
  irrefl x := by rw [ltT]; simp
  trans x y z h1 h2 := by rw [ltT] at *; simp at *; omega
  ntrans x y z h1 h2 := by rw [ltT] at *; simp at *; omega
theorem toldCells_length (l : List (Nat × Nat)) : (toldCells l).length = l.length * 2 := by
  induction l with
  | nil => rfl
  | cons p l ih => rw [show toldCells (p :: l) = [.int .i64 (p.1 : Int), .int .i64 (p.2 : Int)] ++ toldCells l from rfl, List.length_append, ih]; simp; omega
theorem toldCells_get : ∀ (l : List (Nat × Nat)) (j : Nat), j < l.length * 2 → (toldCells l)[j]? = (encT l[j / 2]!)[j % 2]?
  | [], j, h => by simp at h
  | p :: l, j, h => by
    have e : toldCells (p :: l) = [.int .i64 (p.1 : Int), .int .i64 (p.2 : Int)] ++ toldCells l := rfl
    rw [e]
    by_cases h2 : j < 2
    · rw [List.getElem?_append_left (by simpa using h2)]
      obtain rfl | rfl : j = 0 ∨ j = 1 := by omega
      · rfl
      · rfl
    · rw [List.getElem?_append_right (by simp; omega)]
      have e1 : j / 2 = (j - 2) / 2 + 1 := by omega
      have e2 : j % 2 = (j - 2) % 2 := by omega
      rw [show ([.int .i64 (p.1 : Int), .int .i64 (p.2 : Int)] : List Value).length = 2 from rfl, toldCells_get l (j - 2) (by simp at h; omega), e1, e2]
      rfl
theorem encT_get (p : Nat × Nat) (j : Nat) (h : j < 2) : (encT p)[j]? = some (encT p)[j]! := by
  obtain rfl | rfl : j = 0 ∨ j = 1 := by omega
  · rfl
  · rfl
section
variable {w w' : World} {B g n cap : Nat} {cur : Array Value} {l : List (Nat × Nat)}
theorem told_holdsK (hh : w.heap[g]? = some (.cells cur tT (0, 0))) (ht : cur.toList.take (l.length * 2) = toldCells l) (hs : l.length * 2 ≤ cur.size) : HoldsK encT 2 w g 0 l.toArray := by
  intro j hj
  rw [size_flatK] at hj
  have hj2 : j < l.length * 2 := by simpa using hj
  rw [get_flatK _ _ _ _ hj, Nat.zero_add]
  have h1 : cur[j]? = some (encT l.toArray[j / 2]!)[j % 2]! := by
    rw [← encT_get _ _ (by omega), show l.toArray[j / 2]! = l[j / 2]! by simp, ← toldCells_get l j hj2, ← ht, List.getElem?_take_of_lt hj2, Array.getElem?_toList]
  exact ⟨(Holds.cell hh j).trans h1, Holds.free hh j⟩
theorem sortWorld_told (hh : w.heap[g]? = some (.cells cur tT (0, 0))) (hs : l.length * 2 ≤ cur.size) (m : Nat) (d' : List (Nat × Nat)) (hd : d'.length = l.length) (os : Array Obj) :
    Chg w (Go.Proofs.sortWorldK encT 2 w g 0 m d'.toArray os) (· = g) ∧ ∃ cur', (Go.Proofs.sortWorldK encT 2 w g 0 m d'.toArray os).heap[g]? = some (.cells cur' tT (0, 0)) ∧ cur'.size = cur.size ∧ cur'.toList.take (l.length * 2) = toldCells d' := by
  have hlt : g < w.heap.size := (Array.getElem?_eq_some_iff.1 hh).1
  have hsz : (w.heap.modify g (onCells (putCells id 0 (flatK encT 2 d'.toArray)))).size = w.heap.size := Array.size_modify
  refine ⟨⟨rfl, rfl, rfl, ?_, fun k hk hg => ?_⟩, putCells id 0 (flatK encT 2 d'.toArray) cur, ?_, by simp [putCells], ?_⟩
  · show w.heap.size ≤ (w.heap.modify g _ ++ os).size
    rw [Array.size_append, Array.size_modify]; omega
  · show (w.heap.modify g _ ++ os)[k]? = _
    rw [Array.getElem?_append_left (by rw [Array.size_modify]; exact hk), Array.getElem?_modify, if_neg (fun e => hg e.symm)]
  · show (w.heap.modify g _ ++ os)[g]? = _
    rw [Array.getElem?_append_left (by rw [Array.size_modify]; exact hlt), Array.getElem?_modify, if_pos rfl, hh]
    rfl
  · apply List.ext_getElem?
    intro j
    by_cases hj : j < l.length * 2
    · rw [List.getElem?_take_of_lt hj, Array.getElem?_toList, toldCells_get d' j (by omega)]
      have hjc : j < cur.size := by omega
      have hjf : j < (flatK encT 2 d'.toArray).size := by rw [size_flatK]; simp; omega
      simp only [putCells, Array.getElem?_mapIdx, Array.getElem?_eq_getElem hjc, Option.map_some, Nat.zero_le, Nat.zero_add, true_and, if_pos hjf, Nat.sub_zero, id]
      rw [get_flatK _ _ _ _ (by simp; omega), encT_get _ _ (by omega)]
      simp
    · rw [List.getElem?_take_eq_none (by omega), List.getElem?_eq_none (by rw [toldCells_length]; omega)]
end
theorem perm_told {l d : List (Nat × Nat)} (hn : (l.map (·.1)).Nodup) (hp : PermIn 0 l.toArray.size l.toArray d.toArray) (hs : SortedIn (Go.Proofs.ltOf cfT) 0 l.toArray.size d.toArray) : d = sortF l := by
  obtain ⟨h1, _, h3⟩ := hp
  have hlen : d.length = l.length := by simpa using h1
  have e1 : (d.toArray.extract 0 l.toArray.size).toList = d := by simp [← hlen]
  have e2 : (l.toArray.extract 0 l.toArray.size).toList = l := by simp
  rw [e1, e2] at h3
  refine sort_unique (h3.trans (sortF_perm l).symm) ?_ ?_ (sortF_sorted l)
  · exact ((sortF_perm l).map (·.1)).nodup_iff.2 hn
  · rw [List.pairwise_iff_getElem]
    intro i j hi hj hij
    have := hs i j (Nat.zero_le _) hij (by simp; omega)
    rw [ltT, decide_eq_false_iff_not] at this
    simp only [List.getElem!_toArray, getElem!_pos d j hj, getElem!_pos d i hi] at this
    omega
end Go.Bd
namespace Go.Proofs.YtmdbhdhfdldegaaGreatDoor
open Go.RowKit Go.Bd Go.Sort
theorem cmpT (x y : Nat × Nat) (W : World) : Calls Tryz.prog 31 #[.agg #[.int .i64 (x.1 : Int), .int .i64 (x.2 : Int)], .agg #[.int .i64 (y.1 : Int), .int .i64 (y.2 : Int)]] W fun e w' => e = .returned (.int .i64 (cfT x y)) ∧ ∃ q os', w' = grow (W.drewN q) os' := by
  have hcon := fun W' => Tryz.cmp_Compare_int (x.1 : Int) (y.1 : Int) W'
  unfold cfT
  generalize Lib.compareInt (x.1 : Int) (y.1 : Int) = r at hcon ⊢
  go_enter Tryz.func31, Tryz.ntmps31
  go_wp2_with (go_at_call 32; refine (hcon _).mono ?_; rintro e w' ⟨rfl, rfl⟩)
  go_ret
  exact ⟨rfl, 0, _, by rw [alloc_eq_grow, alloc_eq_grow, grow_grow]; rfl⟩
set_option maxRecDepth 100000 in
theorem insert_none (fv : Value) (w : World) : Calls Tryz.prog 81 #[.slice none 0 0, .int .i64 0, .int .i64 0, fv] w fun e w' => e = .returned (.tuple #[]) ∧ w = w' := by
  go_enter Tryz.func81, Tryz.ntmps81
  go_wp2
  go_loop [8] (fun i => i = .int .i64 1) (fun _ => 0)
  case atStart => rfl
  case round =>
    obtain rfl := hrel
    go_wp2
    go_end0
    exact ⟨rfl, rfl⟩
set_option maxRecDepth 100000 in
theorem pdq_none (fv : Value) (x : Int) (w : World) : Calls Tryz.prog 61 #[.slice none 0 0, .int .i64 0, .int .i64 0, .int .i64 x, fv] w fun e w' => e = .returned (.tuple #[]) ∧ w = w' := by
  go_enter Tryz.func61, Tryz.ntmps61
  go_wp2
  go_loop [1, 2] (fun a b => a = .int .i64 0 ∧ b = .int .i64 0) (fun _ _ => 0)
  case atStart => exact ⟨rfl, rfl⟩
  case round =>
    obtain ⟨rfl, rfl⟩ := hrel
    go_wp2_with (go_at_call 81; refine (insert_none _ _).mono ?_; rintro e w' ⟨rfl, rfl⟩)
    (try simp only [Exit.inBlock, Exit.then])
    refine bodyPost_ret (results_none rfl _ _ _) rfl ?_
    exact ⟨rfl, rfl⟩
theorem sort_none (fv : Value) (w : World) : Calls Tryz.prog 30 #[.slice none 0 0, fv] w fun e w' => e = .returned (.tuple #[]) ∧ w = w' := by
  have cl := fun w => Tryz.bits_Len 0 w (by omega) (by omega)
  go_enter Tryz.func30, Tryz.ntmps30
  go_wp2_with (first
    | (go_at_call 62; refine (cl _).mono ?_; rintro e w' ⟨rfl, rfl⟩)
    | (go_at_call 61; refine (pdq_none _ _ _).mono ?_; rintro e w' ⟨rfl, rfl⟩)
    | fail)
  go_end0
  exact ⟨rfl, rfl⟩
theorem sort_any {w : World} {B : Nat} {fv : Value} {l : List (Nat × Nat)} (h : w.ownsRow B tT 2 fv l.length (toldCells l)) (hn : (l.map (·.1)).Nodup) (hlen : l.length ≤ 10000000) :
    Calls Tryz.prog 30 #[fv, .func (.func 31) #[] #[]] w fun e w' => e = .returned (.tuple #[]) ∧ Chg w w' (fun b => fv.ownBlock = some b) ∧ w'.ownsRow B tT 2 fv l.length (toldCells (sortF l)) := by
  rcases h.2 with ⟨rfl, h0⟩ | ⟨g, cap, cur, rfl, hg, hh, hc, hm, hs, ht⟩
  · obtain rfl : l = [] := List.eq_nil_of_length_eq_zero h0
    refine (sort_none _ w).mono ?_
    rintro e w' ⟨rfl, rfl⟩
    exact ⟨rfl, Chg.refl _ _, h⟩
  · have eg : ∀ args w, (callFunc 31 args).run Tryz.prog w = .ok (.enter 31 args) w := fun args w => by kernel_rfl
    have hs2 : l.length * 2 ≤ cur.size := by rw [hs]; exact Nat.mul_le_mul_right 2 hc
    have hcon := AnyQ.slices_SortFunc Tryz.sortTold 2 Tryz.isAgg72 Tryz.sizeOf72 encT (fun _ => rfl) (fun x v hv => by simp [encT] at hv; rcases hv with rfl | rfl <;> rfl) cfT swoT 31 #[] g 0 cap l.toArray w eg
      (fun _ _ _ _ x y => cmpT x y _) (told_holdsK hh ht hs2) (Array.getElem?_eq_some_iff.1 hh).1 (by simp; omega)
    rw [show l.toArray.size = l.length by simp] at hcon
    refine hcon.mono ?_
    rintro e w' ⟨rfl, d', n, os, hp, hsd, rfl⟩
    have hd : d'.toList = sortF l := perm_told hn (by simpa using hp) (by simpa using hsd)
    obtain ⟨h1, cur', h2, h3, h4⟩ := sortWorld_told hh hs2 n d'.toList (by rw [hd]; exact (sortF_perm l).length_eq) os
    rw [Array.toArray_toList] at h1 h2
    rw [hd] at h4
    refine ⟨rfl, h1.mono (fun k _ e => by subst e; rfl), ?_, .inr ⟨g, cap, cur', rfl, hg, h2, hc, hm, by rw [h3, hs], h4⟩⟩
    rw [toldCells_length, (sortF_perm l).length_eq]
end Go.Proofs.YtmdbhdhfdldegaaGreatDoor
namespace Go.Bd
def R (s : Bs) (i : Nat) (st : Pst) : Pst := runP s s.length i st
theorem R_step {s : Bs} {i : Nat} {st : Pst} (hI : Inv st i) (hi : i < s.length) : R s i st = R s (st.step s i).2 (st.step s i).1 := run_step hI hi (by omega)
theorem R_end {s : Bs} {i : Nat} {st : Pst} (h : s.length ≤ i) : R s i st = st := run_end st h
theorem step_code {s : Bs} {i : Nat} (st : Pst) (h : s.getD i 0 = 96) : st.step s i = st.between s i [96] [96] codeS := by
  unfold Pst.step
  rw [if_neg (by rw [h]; simp), if_pos h]
theorem step_note {s : Bs} {i : Nat} (st : Pst) (hi : i < s.length) (h : s.getD i 0 = 94) (hp : [94, 91].isPrefixOf (s.drop i) = true) (hr : st.room = true) : st.step s i = (st.begin 6 i [94, 91], i + 2) := by
  unfold Pst.step
  rw [if_neg (by rw [h]; simp), if_neg (by rw [h]; decide), if_neg (by rw [pre_ne hi (by rw [h]; decide)]; simp), if_neg (by rw [pre_ne hi (by rw [h]; decide)]; simp), if_pos hp, if_pos hr]
theorem step_shut {s : Bs} {i : Nat} (st : Pst) (hi : i < s.length) (h : s.getD i 0 = 93) (hl : 0 < lastK 6 st.fs) : st.step s i = (st.fin (lastK 6 st.fs), i + 1) := by
  unfold Pst.step
  rw [if_neg (by rw [h]; simp), if_neg (by rw [h]; decide), if_neg (by rw [pre_ne hi (by rw [h]; decide)]; simp), if_neg (by rw [pre_ne hi (by rw [h]; decide)]; simp), if_neg (by rw [pre_ne hi (by rw [h]; decide)]; simp), if_pos ⟨h, hl⟩]
def small (w : Bs) : Bool := w.all fun c => 97 ≤ c && c ≤ 122
theorem endP_eq (s : Bs) : endP s = (R s 0 Pst.first).drop 0 := rfl
end Go.Bd
namespace Go.Bd
def AllText (s : Bs) : Prop := endP s = ⟨[⟨⟨[], s⟩, 0, [], 0⟩], []⟩
end Go.Bd
namespace Go.Bd
open Go.RowKit
def frame0 : Array Value := #[.slice none 0 0, .slice none 0 0, .int .u8 0, .string ⟨#[]⟩, .int .i64 0]
def colFirst (B : Nat) (b : Nat) : Nat := if b < B then 5 else if b = B then 1 else if b = B + 1 then 2 else if b = B + 2 then 0 else 9
def firstW (w : World) (s : ByteArray) : World := ((w.alloc (.cells frame0 tF)).alloc (.map #[] 0)).alloc (.cells #[.string s, .slice (some ⟨w.heap.size, 0, none⟩) 1 1, .slice none 0 0, .map (some (w.heap.size + 1))] tP)
theorem psFirst (P : Program) (w : World) (s : ByteArray) : PSx P (firstW w s) w.heap.size (colFirst w.heap.size) (w.heap.size + 1 + 1) w.heap.size 1 1 s Pst.first 0 (.slice none 0 0) (w.heap.size + 1) frame0 [] := by
  have hz : (firstW w s).heap.size = w.heap.size + 3 := by simp [firstW]
  have hp : Holds (firstW w s) (w.heap.size + 1 + 1) tP #[.string s, .slice (some ⟨w.heap.size, 0, none⟩) 1 1, .slice none 0 0, .map (some (w.heap.size + 1))] := by
    have := Holds.new ((w.alloc (.cells frame0 tF)).alloc (.map #[] 0)) tP #[.string s, .slice (some ⟨w.heap.size, 0, none⟩) 1 1, .slice none 0 0, .map (some (w.heap.size + 1))]
    simpa [firstW] using this
  have ho : Holds (firstW w s) w.heap.size tF frame0 := ((Holds.new w tF frame0).alloc _).alloc _
  refine ⟨by omega, hp, by unfold colFirst; rw [if_neg (by omega), if_neg (by omega), if_neg (by omega), if_pos (by omega)], by omega, ho, by simp [colFirst], rfl, by omega, by simp [Pst.first], by unfold maxLen; omega, ?_, World.ownsRow_nil _ _ _ _, (fun b hb => by cases hb), by omega, ?_, by simp [colFirst]; try omega, (fun g hg => by cases hg), by simp, fun b hb => ?_, fun b hb => ?_⟩
  · intro k f hf
    have hk : k = 0 := by
      have := (List.getElem?_eq_some_iff.1 hf).1
      simp [Pst.first] at this
      omega
    subst hk
    simp only [Pst.first, List.reverse_singleton, List.getElem?_cons_zero, Option.some.injEq] at hf
    subst hf
    exact ⟨.slice none 0 0, .slice none 0 0, ⟨rfl, rfl, rfl, rfl, rfl, SpanRow.nil _ _ _ _, World.ownsRow_nil _ _ _ _, (fun b hb => by cases hb), (fun b hb => by cases hb)⟩⟩
  · have h1 := World.ownsMap_made (H := Unit) (w.alloc (.cells frame0 tF)) P 9 unitElem
    have h2 : (firstW w s).ownsMap (H := Unit) P 9 unitElem (w.heap.size + 1) 0 (.map []) := by
      have h3 := h1.kept (w' := firstW w s) (row := none) ⟨rfl, rfl, rfl, by simp [firstW], fun k hk _ => Below.heap_alloc _ _ k hk⟩ (by simp)
      simpa using h3
    exact h2
  · rw [hz] at hb
    unfold colFirst
    rw [if_neg (by omega), if_neg (by omega), if_neg (by omega), if_neg (by omega)]
  · unfold colFirst
    rw [if_pos hb]
def FaultRow (w : World) (B : Nat) (v : Value) (l : List Nat) : Prop := w.ownsRow B 70 1 v l.length (l.map fun (f : Nat) => Value.int .i64 (f : Int))
end Go.Bd
namespace Go.Proofs.YtmdbhdhfdldegaaGreatDoor
open Go.RowKit Go.Bd
theorem fault_info : (Tryz.prog.info? 70).map (fun i => (i.zero, i.size, i.bytes)) = some (some (.int .i64 0), 1, 8) := by kernel_rfl
theorem make_frame (w : World) : (Instr.makeSlice 56 (.int .i64 1) (.int .i64 1)).run Tryz.prog w = .ok (.slice (some ⟨w.heap.size, 0, none⟩) 1 1) (w.alloc (.cells frame0 68)) := by
  obtain ⟨i0, hi, hz0, hz1, hz2⟩ := info_parts frame_info
  have h := run_make (P := Tryz.prog) w 56 68 i0 _ Tryz.underlying56 hi hz0 .i64 .i64 1 1 (by omega) (Int.le_refl _) (by rw [hz2]; decide) (by decide)
  rw [hz1] at h
  have e : madeCells (Value.agg #[.slice none 0 0, .slice none 0 0, .int .u8 0, .string ⟨#[]⟩, .int .i64 0]).cells (Int.toNat 1 * 5) = frame0 := by first | rfl | kernel_rfl | decide
  rw [e] at h
  exact h
theorem make_map (w : World) : (Instr.makeMap 57 none).run Tryz.prog w = .ok (.map (some w.heap.size)) (w.alloc (.map #[] 0)) := by first | rfl | kernel_rfl
set_option maxRecDepth 100000 in
set_option maxHeartbeats 4000000 in
theorem parseSpans_fresh (s : ByteArray) (w : World) (hs : s.size ≤ 100000) (m : Int) (hm : w.cell? ⟨0, 0, none⟩ = some (.int .i64 m)) :
    Calls Tryz.prog 14 #[.string s] w fun e w' => ∃ sv fv, e = .returned (.tuple #[sv, fv]) ∧ Below w.heap.size w w' ∧ Forest w' (fun b => w.heap.size ≤ b ∧ b < w'.heap.size) sv (spansOf s.data.toList) ∧ FaultRow w' w.heap.size fv (faultsOf s.data.toList) := by
  have hB : 0 < w.heap.size := World.block_lt_of_cell? w _ hm
  have mf := make_frame w
  have HF := Lib.hid (psFirst Tryz.prog w s)
  have HM := Lib.hid hm
  have hls : s.data.toList.length = s.size := by simp
  have HLS := Lib.hid hls
  clear hm hls
  go_enter Tryz.func14, Tryz.ntmps14
  go_wp2_with fail
  rw [make_map]
  clear mf
  simp only [Result.andThen]
  rw [Oper.upon_value]
  go_wp2
  go_loopg [5] (s.size) (fun q v wr => ∃ (i : Nat) (st : Pst) (col : Nat → Nat) (ob cap : Nat) (fv : Value) (cs : Array Value) (gn : List Bs), i + q = s.size ∧ v = .int .i64 (i : Int) ∧ Hid (Bd.Inv st i ∧ R s.data.toList i st = R s.data.toList 0 Pst.first ∧ PSx Tryz.prog wr w.heap.size col (w.heap.size + 1 + 1) ob cap st.fs.length s st i fv (w.heap.size + 1) cs gn ∧ Below w.heap.size w wr))
  case atStart =>
    refine ⟨0, Pst.first, _, _, _, _, _, _, by omega, rfl, Inv.first, rfl, HF.out, ?_⟩
    exact (((Below.refl _ _).alloc (Nat.le_refl _) _).alloc (by simp) _).alloc (by simp; omega) _
  case round =>
    clear HF
    obtain ⟨i, st, col, ob, cap, fv, cs, gn, hq, rfl, HR⟩ := hrel
    obtain ⟨hI, hRR, hP, hb⟩ := HR.out
    by_cases hlt : i < s.size
    · have cst := step_any hP rfl hI hlt hs m ((hb.cell (p := ⟨0, 0, none⟩) hB).trans HM.out) hB
      obtain ⟨h3, h4, h5⟩ := hI.step (s := s.data.toList) (by rw [HLS.out]; exact hlt)
      rw [HLS.out] at h5
      have hRS : R s.data.toList (st.step s.data.toList i).2 (st.step s.data.toList i).1 = R s.data.toList 0 Pst.first := by rw [← R_step hI (by rw [HLS.out]; exact hlt)]; exact hRR
      have HRS := Lib.hid hRS
      have HI3 := Lib.hid h3
      have HB := Lib.hid hb
      clear hI hRR hP hb HR h3 hRS
      generalize (st.step s.data.toList i).2 = j at cst h4 h5 HRS HI3
      generalize (st.step s.data.toList i).1 = st' at cst HRS HI3
      go_wp2_with (go_at_call 26; refine cst.mono ?_; clear cst; rintro e w' ⟨rfl, hpost⟩)
      have HPost := Lib.hid hpost
      clear hpost
      go_roundg (s.size - j)
      case measure => omega
      case rel =>
        obtain ⟨col', ob', cap', fv', cs', gn', h6, h7⟩ := HPost.out
        exact ⟨j, st', col', ob', cap', fv', cs', gn', by omega, rfl, HI3.out, HRS.out, h6, HB.out.trans h7.below⟩
    · obtain rfl : i = s.size := by omega
      have hst : st.drop 0 = endP s.data.toList := by
        rw [endP_eq, ← hRR, R_end (by rw [HLS.out]; exact Nat.le_refl _)]
      have hI1 := (hI.drop (n := 0) hI.2.2.1).1
      have cd := drop_any hP rfl 0 hI.2.2.1 s.size hI hs
      rw [hst] at cd hI1
      have hfa : (endP s.data.toList).faults = faultsAt s.data.toList := rfl
      have hnd := faults_nodup s.data.toList
      have HSO : Hid (spansOf s.data.toList = match (endP s.data.toList).fs with | f :: _ => f.row.flush.sp | [] => []) := rfl
      have HFO : Hid (faultsOf s.data.toList = (sortF (endP s.data.toList).faults).map (·.2)) := rfl
      rw [← hfa] at hnd
      obtain ⟨f, hfs⟩ := endP_one s.data.toList
      generalize endP s.data.toList = ed at cd hI1 hfs hnd HSO HFO
      have hwt : wtF f ≤ s.size := by
        have := hI1.1
        rw [hfs, wtFs_cons] at this
        omega
      have hsl : f.row.sp.length ≤ 100000 ∧ f.row.tx.length ≤ 100000 := by
        have := wtL_len f.row.sp
        unfold wtF wtR at hwt
        omega
      obtain ⟨hsl1, hsl2⟩ := hsl
      have hfl : ed.faults.length ≤ 100001 := by have := hI1.2.1; omega
      have HFS := Lib.hid hfs
      have HND := Lib.hid hnd
      have HB := Lib.hid hb
      clear hI hRR hP hb HR hst hI1 hfa hfs hwt hnd
      go_wp2_with fail
      refine cd.mono ?_
      clear cd
      rintro e w1 ⟨rfl, col1, fv1, cs1, h1, st1⟩
      have H1 := Lib.hid h1
      have HB1 := Lib.hid (HB.out.trans st1.below)
      clear h1 st1
      go_wp2_with fail
      refine (top_any (n := 0) H1.out (by omega)).mono ?_
      rintro e w2 ⟨rfl, kk, rfl⟩
      have cf := flushTop_any (PSx.drewN H1.out kk) HFS.out (by omega) (by omega)
      go_wp2_with fail
      refine cf.mono ?_
      clear cf
      rintro e w3 ⟨rfl, col3, cs3, h3, st3⟩
      have hfs3 : (ed.top (·.flush)).fs = [{ f with row := f.row.flush }] := by simp [Pst.top, onTop, HFS.out]
      have HFS3 := Lib.hid hfs3
      have hfa3 : (ed.top (·.flush)).faults = ed.faults := rfl
      have csr := sort_any h3.hf (by rw [hfa3]; exact HND.out) (by rw [hfa3]; omega)
      have hf3 := h3.hf
      rw [hfa3] at csr hf3
      have d2 := h3.hp.cell 2
      have H3 := Lib.hid h3
      have HB3 := Lib.hid (HB1.out.trans st3.undrew.below)
      clear h3 st3 hfs3 hfa3
      go_wp2_with fail
      refine csr.mono ?_
      clear csr
      rintro e w4 ⟨rfl, hch4, ho4⟩
      have hsl4 : (sortF ed.faults).length = ed.faults.length := (sortF_perm _).length_eq
      obtain ⟨col4, h4, st4⟩ := H3.out.faults (fa := sortF ed.faults) hch4 (fun b hb => .inr hb) (hch4.holds (fun e => by have h1 := H3.out.cf _ e; have h2 := H3.out.cp; omega) H3.out.hp) (by rw [hsl4]; exact ho4) (fun b hb => .inl hb)
      have e2 := h4.hp.cell 2
      have H4 := Lib.hid h4
      have HB4 := Lib.hid (HB3.out.trans st4.below)
      have HHP := Lib.hid h4.hp
      have hB4 : w.heap.size ≤ w4.heap.size := HB4.out.size
      clear h4 st4 hch4 d2 hf3
      have HSL := Lib.hid hsl4
      clear hsl4
      generalize hn : ed.faults.length = n at hfl ho4 HSL
      obtain ⟨A, c, rfl, hle⟩ := own_slice2 ho4
      have HC : Hid (∀ (j : Nat) (p : Nat × Nat), (sortF ed.faults)[j]? = some p → ∃ g, A = some ⟨g, 0, none⟩ ∧ g < w4.heap.size ∧ w4.cell? ⟨g, j * 2, none⟩ = some (.int .i64 (p.1 : Int)) ∧ w4.cell? ⟨g, j * 2 + 1, none⟩ = some (.int .i64 (p.2 : Int))) := fun j p hj => by
        have hjl : j < n := by have := (List.getElem?_eq_some_iff.1 hj).1; rw [HSL.out] at this; exact this
        have hpe : (sortF ed.faults)[j]! = p := by rw [List.getElem!_eq_getElem?_getD, hj]; rfl
        rcases ho4.2 with ⟨_, h0⟩ | ⟨g, cap', cur, hv, hg, hh, hc, hm, hs, ht⟩
        · omega
        · injection hv with h1 _ _
          have get : ∀ q, q < 2 → w4.cell? ⟨g, j * 2 + q, none⟩ = (encT p)[q]? := fun q hq => by
            have := toldCells_get (sortF ed.faults) (j * 2 + q) (by rw [HSL.out]; omega)
            rw [← ht, List.getElem?_take_of_lt (by omega), Array.getElem?_toList, show (j * 2 + q) / 2 = j by omega, show (j * 2 + q) % 2 = q by omega, hpe] at this
            exact (Holds.cell hh _).trans this
          exact ⟨g, h1, (Array.getElem?_eq_some_iff.1 hh).1, get 0 (by omega), get 1 (by omega)⟩
      have HLE := Lib.hid hle
      have HO4 := Lib.hid ho4
      have HN := Lib.hid hn
      clear ho4 hle hn
      go_wp2
      go_loopg [6, 38] n (fun q v idx wr => ∃ k : Nat, k + q = n ∧ idx = .int .i64 (k : Int) ∧ Hid (wr.ownsRow w4.heap.size 70 1 v k (((sortF ed.faults).map fun (p : Nat × Nat) => Value.int .i64 (p.2 : Int)).take k) ∧ Below w4.heap.size w4 wr))
      case atStart => exact ⟨0, by omega, rfl, World.ownsRow_nil _ _ _ _, Below.refl _ _⟩
      case round =>
        obtain ⟨k, hk, rfl, HR⟩ := hrel
        obtain ⟨hown, hbl⟩ := HR.out
        have hsz := hbl.size
        by_cases hlt : k < n
        · obtain ⟨p, hp⟩ : ∃ p, (sortF ed.faults)[k]? = some p := ⟨_, List.getElem?_eq_getElem (by rw [HSL.out]; exact hlt)⟩
          obtain ⟨g, rfl, hg, p1, p2⟩ := HC.out k p hp
          replace p1 := (hbl.cell (p := ⟨g, k * 2, none⟩) hg).trans p1
          replace p2 := (hbl.cell (p := ⟨g, k * 2 + 1, none⟩) hg).trans p2
          have HT := Lib.hid (show ((sortF ed.faults).map (fun (p : Nat × Nat) => Value.int .i64 (p.2 : Int))).take (k + 1) = ((sortF ed.faults).map (fun (p : Nat × Nat) => Value.int .i64 (p.2 : Int))).take k ++ [.int .i64 (p.2 : Int)] by
            rw [List.take_add_one, List.getElem?_map, hp]; rfl)
          have HBL := Lib.hid hbl
          clear HR hp hbl
          have hN := Holds.new (wr.alloc (.cells #[.int .i64 (p.1 : Int), .int .i64 (p.2 : Int)] 72)) 70 #[.int .i64 (p.2 : Int)]
          rw [show (wr.alloc (.cells #[.int .i64 (p.1 : Int), .int .i64 (p.2 : Int)] 72)).heap.size = wr.heap.size + 1 by simp] at hN
          have HNW := Lib.hid hN
          clear hN
          go_wp2_with (at_builtin; refine wpList_app_el _ rfl _ _ 40 rfl w4.heap.size 70 (.int .i64 0) 1 8 Tryz.underlying40 fault_info rfl (by omega) _ k _ rfl ((hown.alloc _).alloc _) _ 1 [.int .i64 (p.2 : Int)] rfl rfl HNW.out (by simp [Value.oneCell']) (by omega) (by omega) (by simp; omega) ?_)
          intro v1 w5 ho5 hg5 hn5
          have hb5 : Below w4.heap.size w4 w5 := ((HBL.out.alloc hsz (.cells #[.int .i64 (p.1 : Int), .int .i64 (p.2 : Int)] 72)).alloc (by simp; omega) (.cells #[.int .i64 (p.2 : Int)] 70)).trans ((Chg.grown hg5).toBelow (by simp; omega) (fun b hb => (hown.lt b hb.symm).1))
          rw [← HT.out] at ho5
          have HR5 := Lib.hid (And.intro ho5 hb5)
          clear hown hg5 hn5 ho5 hb5
          go_wp2
          go_roundg (gk - 1)
          case measure => omega
          case rel => exact ⟨k + 1, by omega, by go_num, HR5.out⟩
        · obtain rfl : k = n := by omega
          have h5 := H4.out.keep (Chg.below hbl (fun _ => False)) (fun _ h => h.elim)
          obtain ⟨sv, tv, hfr⟩ := h5.fr 0 { f with row := f.row.flush } (by rw [HFS3.out]; rfl)
          obtain ⟨q0, _, _, _, _⟩ := frame_cells hfr h5.ho
          have q0' : wr.cell? ⟨ob, 0, none⟩ = some sv := by simpa using q0
          have HFR : Hid (Forest wr (fun b => w.heap.size ≤ b ∧ b < wr.heap.size) sv f.row.flush.sp) := hfr.sp.forest (fun b hb => ⟨h5.ge4 hb, h5.lt4 hb⟩) (fun b hb => hfr.sp.lt b hb)
          have H5 := Lib.hid h5
          have HBW := Lib.hid (HB4.out.trans (hbl.mono hB4))
          clear h5 hfr q0 HR hbl
          go_wp2_with fail
          refine (top_any (n := 0) H5.out (by omega)).mono ?_
          rintro e w6 ⟨rfl, kk6, rfl⟩
          go_wp2
          go_ret2
          have hso : spansOf s.data.toList = f.row.flush.sp := by rw [HSO.out, HFS.out]
          have hfo : faultsOf s.data.toList = (sortF ed.faults).map (·.2) := HFO.out
          refine ⟨sv, _, rfl, ?_, ?_, ?_⟩
          · exact ⟨HBW.out.os, HBW.out.tape, HBW.out.output, HBW.out.size, HBW.out.block⟩
          · rw [hso]; exact HFR.out.keep (fun _ h => h) (fun _ _ _ h => h)
          · unfold FaultRow
            rw [hfo, List.length_map, HSL.out, List.map_map]
            rw [List.take_of_length_le (by rw [List.length_map, HSL.out]; exact Nat.le_refl _)] at hown
            exact ⟨hown.1, hown.2.imp id (fun ⟨g, cap, cur, a, b, r⟩ => ⟨g, cap, cur, a, by omega, r⟩)⟩
theorem parseSpans_any (s : ByteArray) (w : World) (hs : s.size ≤ 100000) (m : Int) (hm : w.cell? ⟨0, 0, none⟩ = some (.int .i64 m)) :
    Calls Tryz.prog 14 #[.string s] w fun e w' => ∃ sv fv, e = .returned (.tuple #[sv, fv]) ∧ Below w.heap.size w w' ∧ Forest w' (· < w'.heap.size) sv (spansOf s.data.toList) ∧ FaultRow w' w.heap.size fv (faultsOf s.data.toList) := by
  refine (parseSpans_fresh s w hs m hm).mono ?_
  rintro e w' ⟨sv, fv, he, hb, hf, hr⟩
  exact ⟨sv, fv, he, hb, hf.keep (fun _ h => h.2) (fun _ _ _ h => h), hr⟩
end Go.Proofs.YtmdbhdhfdldegaaGreatDoor
namespace Go.Proofs.YtmdbhdhfdldegaaGreatDoor
open Go.RowKit Go.Bd Go.Shelf
def bldRen : Go.Shelf.Ren := ⟨fun | 166 => 22 | 167 => 24 | 240 => 46 | 276 => 71 | n => n, fun | 0 => 0 | 3 => 3 | 4 => 4 | 5 => 5 | 9 => 9 | 20 => 20 | 37 => 35 | 70 => 34 | 72 => 37 | 75 => 47 | 164 => 112 | 80 => 39 | 127 => 54 | n => n, fun | n => n⟩
theorem bldExtra : Builder.Extra Tryz.prog bldRen where
  sizeBuilder := by kernel_rfl
  liesBuilder := by kernel_rfl
  t5 := Tryz.underlying5
  a5 := Tryz.isAgg5
  z5 := Tryz.sizeOf5
  v5 := Tryz.zeroValue5
  infoByte := by kernel_rfl
  cellsByte := by kernel_rfl
  sizeByte := by kernel_rfl
  neB5 := by decide
theorem bldLays166 : Go.Proofs.Lays.n166 Tryz.prog bldRen where
  mixed := by kernel_rfl
  f166 := Tryz.func22.trans (congrArg some (by kernel_rfl))
  f240 := Tryz.func46.trans (congrArg some (by kernel_rfl))
  f276 := Tryz.func71.trans (congrArg some (by kernel_rfl))
  t0 := Tryz.underlying0
  a0 := Tryz.isAgg0
  z0 := Tryz.sizeOf0
  v0 := Tryz.zeroValue0
  t3 := Tryz.underlying3
  a3 := Tryz.isAgg3
  z3 := Tryz.sizeOf3
  v3 := Tryz.zeroValue3
  t4 := Tryz.underlying4
  a4 := Tryz.isAgg4
  z4 := Tryz.sizeOf4
  v4 := Tryz.zeroValue4
  t9 := Tryz.underlying9
  a9 := Tryz.isAgg9
  z9 := Tryz.sizeOf9
  v9 := Tryz.zeroValue9
  t20 := Tryz.underlying20
  a20 := Tryz.isAgg20
  z20 := Tryz.sizeOf20
  v20 := Tryz.zeroValue20
  t37 := Tryz.underlying35
  a37 := Tryz.isAgg35
  z37 := Tryz.sizeOf35
  v37 := Tryz.zeroValue35
  t70 := Tryz.underlying34
  a70 := Tryz.isAgg34
  z70 := Tryz.sizeOf34
  v70 := Tryz.zeroValue34
  t72 := Tryz.underlying37
  a72 := Tryz.isAgg37
  z72 := Tryz.sizeOf37
  v72 := Tryz.zeroValue37
  t75 := Tryz.underlying47
  a75 := Tryz.isAgg47
  z75 := Tryz.sizeOf47
  v75 := Tryz.zeroValue47
  t164 := Tryz.underlying112
  a164 := Tryz.isAgg112
  z164 := Tryz.sizeOf112
  v164 := Tryz.zeroValue112
theorem bldLays167 : Go.Proofs.Lays.n167 Tryz.prog bldRen where
  mixed := by kernel_rfl
  f167 := Tryz.func24.trans (congrArg some (by kernel_rfl))
  f240 := Tryz.func46.trans (congrArg some (by kernel_rfl))
  f276 := Tryz.func71.trans (congrArg some (by kernel_rfl))
  t0 := Tryz.underlying0
  a0 := Tryz.isAgg0
  z0 := Tryz.sizeOf0
  v0 := Tryz.zeroValue0
  t4 := Tryz.underlying4
  a4 := Tryz.isAgg4
  z4 := Tryz.sizeOf4
  v4 := Tryz.zeroValue4
  t5 := Tryz.underlying5
  a5 := Tryz.isAgg5
  z5 := Tryz.sizeOf5
  v5 := Tryz.zeroValue5
  t9 := Tryz.underlying9
  a9 := Tryz.isAgg9
  z9 := Tryz.sizeOf9
  v9 := Tryz.zeroValue9
  t20 := Tryz.underlying20
  a20 := Tryz.isAgg20
  z20 := Tryz.sizeOf20
  v20 := Tryz.zeroValue20
  t37 := Tryz.underlying35
  a37 := Tryz.isAgg35
  z37 := Tryz.sizeOf35
  v37 := Tryz.zeroValue35
  t70 := Tryz.underlying34
  a70 := Tryz.isAgg34
  z70 := Tryz.sizeOf34
  v70 := Tryz.zeroValue34
  t72 := Tryz.underlying37
  a72 := Tryz.isAgg37
  z72 := Tryz.sizeOf37
  v72 := Tryz.zeroValue37
  t75 := Tryz.underlying47
  a75 := Tryz.isAgg47
  z75 := Tryz.sizeOf47
  v75 := Tryz.zeroValue47
  t164 := Tryz.underlying112
  a164 := Tryz.isAgg112
  z164 := Tryz.sizeOf112
  v164 := Tryz.zeroValue112
abbrev Bld (B b : Nat) (l : Bs) (w : World) : Prop := Lib.IsBuilder 37 5 B b (Lib.byteCells l) w
end Go.Proofs.YtmdbhdhfdldegaaGreatDoor
namespace Go.Bd
mutual
def each1 : Sp → Nat → List Sp
  | ⟨q, t, u, v, kids⟩, k => if q = k then ⟨q, t, u, v, kids⟩ :: eachL kids k else eachL kids k
def eachL : List Sp → Nat → List Sp
  | [], _ => []
  | x :: l, k => each1 x k ++ eachL l k
end
mutual
def many1 : Sp → Nat
  | ⟨_, _, _, _, kids⟩ => 1 + manyL kids
def manyL : List Sp → Nat
  | [] => 0
  | x :: l => many1 x + manyL l
end
mutual
def kinds1 : Sp → Bool
  | ⟨k, _, _, _, kids⟩ => decide (k ≤ 6) && kindsL kids
def kindsL : List Sp → Bool
  | [] => true
  | x :: l => kinds1 x && kindsL l
end
mutual
theorem snd_kinds1 : ∀ (x : Sp) (d : Nat), snd1 x d = true → kinds1 x = true
  | ⟨k, t, u, v, kids⟩, d, h => by
    simp only [snd1, Bool.and_eq_true] at h
    obtain ⟨⟨⟨⟨h1, _⟩, h2⟩, _⟩, _⟩ := h
    simp only [kinds1, Bool.and_eq_true]
    refine ⟨h1, ?_⟩
    split at h2
    · simp only [Bool.and_eq_true] at h2
      exact snd_kindsL kids _ _ h2.2
    · cases kids with
      | nil => rfl
      | cons x l => simp at h2
theorem snd_kindsL : ∀ (l : List Sp) (d p : Nat), sndL l d p = true → kindsL l = true
  | [], _, _, _ => rfl
  | x :: l, d, p, h => by
    simp only [sndL, Bool.and_eq_true] at h
    simp only [kindsL, Bool.and_eq_true]
    exact ⟨snd_kinds1 x d h.1.1, snd_kindsL l d _ h.2⟩
end
mutual
theorem each1_kind : ∀ (x : Sp) (k : Nat), ∀ y ∈ each1 x k, y.kind = k
  | ⟨q, t, u, v, kids⟩, k, y, hy => by
    have ih := eachL_kind kids k
    simp only [each1] at hy
    split at hy
    · rename_i hq
      rcases List.mem_cons.1 hy with rfl | hy
      · exact hq
      · exact ih y hy
    · exact ih y hy
theorem eachL_kind : ∀ (l : List Sp) (k : Nat), ∀ y ∈ eachL l k, y.kind = k
  | [], _, _, hy => by simp [eachL] at hy
  | x :: l, k, y, hy => by
    simp only [eachL, List.mem_append] at hy
    rcases hy with hy | hy
    · exact each1_kind x k y hy
    · exact eachL_kind l k y hy
end
def sum7 (f : Nat → Nat) : Nat := f 0 + f 1 + f 2 + f 3 + f 4 + f 5 + f 6
mutual
theorem each_sum1 : ∀ (x : Sp), kinds1 x = true → sum7 (fun k => (each1 x k).length) = many1 x
  | ⟨q, t, u, v, kids⟩, h => by
    simp only [kinds1, Bool.and_eq_true, decide_eq_true_eq] at h
    have ih := each_sumL kids h.2
    have e : ∀ k, (each1 ⟨q, t, u, v, kids⟩ k).length = (if q = k then 1 else 0) + (eachL kids k).length := fun k => by
      simp only [each1]; split <;> simp; omega
    simp only [sum7, e, many1] at *
    rw [← ih]
    have hq : q = 0 ∨ q = 1 ∨ q = 2 ∨ q = 3 ∨ q = 4 ∨ q = 5 ∨ q = 6 := by omega
    rcases hq with rfl | rfl | rfl | rfl | rfl | rfl | rfl <;> simp <;> omega
theorem each_sumL : ∀ (l : List Sp), kindsL l = true → sum7 (fun k => (eachL l k).length) = manyL l
  | [], _ => rfl
  | x :: l, h => by
    simp only [kindsL, Bool.and_eq_true] at h
    have h1 := each_sum1 x h.1
    have h2 := each_sumL l h.2
    simp only [sum7, eachL, manyL, List.length_append] at *
    omega
end
mutual
theorem each_none1 : ∀ (x : Sp), kinds1 x = true → each1 x 7 = []
  | ⟨q, t, u, v, kids⟩, h => by
    simp only [kinds1, Bool.and_eq_true, decide_eq_true_eq] at h
    simp only [each1]
    rw [if_neg (by omega)]
    exact each_noneL kids h.2
theorem each_noneL : ∀ (l : List Sp), kindsL l = true → eachL l 7 = []
  | [], _ => rfl
  | x :: l, h => by
    simp only [kindsL, Bool.and_eq_true] at h
    simp only [eachL, each_none1 x h.1, each_noneL l h.2, List.append_nil]
end
def Pre (a b : Pst) : Prop := a.faults <+: b.faults
theorem Pre.refl (a : Pst) : Pre a a := List.prefix_refl _
theorem Pre.trans {a b c : Pst} (h : Pre a b) (h2 : Pre b c) : Pre a c := List.IsPrefix.trans h h2
theorem Pre.tell (st : Pst) (a f : Nat) : Pre st (st.tell a f) := List.prefix_append _ _
theorem Pre.drop1 (st : Pst) : Pre st st.drop1 := by
  unfold Pst.drop1
  split
  · exact List.prefix_append _ _
  · exact Pre.refl _
theorem Pre.dropN : ∀ (n : Nat) (st : Pst), Pre st (st.dropN n)
  | 0, st => Pre.refl st
  | n + 1, st => (Pre.drop1 st).trans (Pre.dropN n _)
theorem Pre.fin (st : Pst) (n : Nat) : Pre st (st.fin n) := by
  have h := Pre.dropN (st.fs.length - 1 - n) st
  unfold Pst.fin Pst.shut
  split
  · exact h
  · exact h
theorem Pre.between (st : Pst) (s : Bs) (i : Nat) (a b : Bs) (asf : Bs → Sp ⊕ Nat) : Pre st (st.between s i a b asf).1 := by
  unfold Pst.between
  split
  · exact Pre.tell (st.write a) _ _
  · split
    · exact Pre.tell (st.write _) _ _
    · exact Pre.refl st
theorem Pre.mark (st : Pst) (s : Bs) (i k : Nat) : Pre st (st.mark s i k) := by
  unfold Pst.mark
  split
  · exact Pre.fin _ _
  · split
    · exact Pre.refl st
    · split
      · exact Pre.tell (st.write _) _ _
      · exact Pre.refl st
theorem Pre.step (st : Pst) (s : Bs) (i : Nat) : Pre st (st.step s i).1 := by
  unfold Pst.step
  split
  · exact Pre.refl st
  split
  · exact Pre.between _ _ _ _ _ _
  split
  · exact Pre.between _ _ _ _ _ _
  split
  · exact Pre.between _ _ _ _ _ _
  split
  · simp only
    split
    · exact Pre.refl st
    · exact Pre.tell (st.write _) _ _
  split
  · exact Pre.fin _ _
  split
  · exact Pre.mark _ _ _ _
  split
  · exact Pre.mark _ _ _ _
  · exact Pre.refl st
theorem Pre.run (s : Bs) : ∀ (n i : Nat) (st : Pst), Pre st (runP s n i st)
  | 0, _, st => Pre.refl st
  | n + 1, i, st => by
    rw [runP]
    split
    · exact (Pre.step st s i).trans (Pre.run s n _ _)
    · exact Pre.refl st
end Go.Bd
namespace Go.Bd
def esc : Bs → Bs
  | [] => []
  | c :: l => if escB c = true then 92 :: c :: esc l else c :: esc l
mutual
def put1 : Sp → Option Bs
  | ⟨k, t, u, v, kids⟩ =>
    if k = 0 then some (esc t)
    else if k = 1 then (putL kids).map fun b => 42 :: (b ++ [42])
    else if k = 2 then (putL kids).map fun b => 95 :: (b ++ [95])
    else if k = 3 then some (96 :: (t ++ [96]))
    else if k = 4 then some (60 :: 60 :: (t ++ [62, 62]))
    else if k = 5 then (if parseB (textL t u v) = some (t, u, v) then some (40 :: 40 :: (textL t u v ++ [41, 41])) else none)
    else if k = 6 then (putL kids).map fun b => 94 :: 91 :: (b ++ [93])
    else none
def putL : List Sp → Option Bs
  | [] => some []
  | x :: l => (put1 x).bind fun a => (putL l).map fun b => a ++ b
end
mutual
def same1 : Sp → Sp → Bool
  | ⟨k, t, u, v, kids⟩, ⟨k', t', u', v', kids'⟩ => k == k' && (t == t' && (u == u' && (v == v' && sameL kids kids')))
def sameL : List Sp → List Sp → Bool
  | [], [] => true
  | x :: l, y :: m => same1 x y && sameL l m
  | _, _ => false
end
def textOf (l : List Sp) : Option Bs :=
  match putL l with
  | none => none
  | some s => if faultsAt s = [] ∧ sameL (spansOf s) l = true then some s else none
theorem esc_len : ∀ l : Bs, (esc l).length ≤ 2 * l.length
  | [] => Nat.zero_le _
  | c :: l => by
    have := esc_len l
    unfold esc
    split <;> simp only [List.length_cons] <;> omega
theorem step_esc {s : Bs} {i : Nat} (st : Pst) (hi : i + 1 < s.length) (h : s.getD i 0 = 92) (he : escB (s.getD (i + 1) 0) = true) : st.step s i = (st.write [s.getD (i + 1) 0], i + 2) := by
  unfold Pst.step
  rw [if_pos ⟨h, hi, he⟩]
mutual
theorem same1_eq : ∀ (x y : Sp), same1 x y = true ↔ x = y
  | ⟨k, t, u, v, kids⟩, ⟨k', t', u', v', kids'⟩ => by
    simp only [same1, Bool.and_eq_true, beq_iff_eq, Sp.mk.injEq, sameL_eq kids kids']
theorem sameL_eq : ∀ (l m : List Sp), sameL l m = true ↔ l = m
  | [], [] => by simp [sameL]
  | [], y :: m => by simp [sameL]
  | x :: l, [] => by simp [sameL]
  | x :: l, y :: m => by
    simp only [sameL, Bool.and_eq_true, same1_eq x y, sameL_eq l m, List.cons.injEq]
end
end Go.Bd
namespace Go.Proofs.YtmdbhdhfdldegaaGreatDoor
open Go.RowKit Go.Bd
theorem Bld.later {B b : Nat} {l : Bs} {w w' : World} (h : Bld B b l w) (hb : Below w.heap.size w w') : Bld B b l w' := by
  have st : ∀ p, Lib.BuilderAt 37 5 B b p (Lib.byteCells l) w → Lib.BuilderAt 37 5 B b p (Lib.byteCells l) w' := fun p h => by
    obtain ⟨h1, v, h2, h3, h4⟩ := h
    exact ⟨h1, v, (hb.block b (Array.getElem?_eq_some_iff.1 h2).1).trans h2, (Chg.below hb (fun _ => False)).owns h3 (fun _ _ h => h), h4⟩
  rcases h with h | h
  · exact .inl (st _ h)
  · exact .inr (st _ h)
theorem Bld.lt {B b : Nat} {l : Bs} {w : World} (h : Bld B b l w) : B ≤ b ∧ b < w.heap.size := by
  rcases h with h | h
  · exact ⟨h.1, h.lt⟩
  · exact ⟨h.1, h.lt⟩
theorem Bld.fresh (w : World) : Bld w.heap.size w.heap.size [] (w.alloc (.cells #[.pointer none, .slice none 0 0] 37)) := Lib.fresh_isBuilder _ _ _
end Go.Proofs.YtmdbhdhfdldegaaGreatDoor
namespace Go.Bd
open Go.RowKit
theorem Forest.at {w : World} {F : Nat → Prop} {A : Option Addr} {c n : Nat} {l : List Sp} (h : Forest w F (.slice A n c) l) {j : Nat} {x : Sp} (hx : l[j]? = some x) : ∃ b off kA kc, A = some ⟨b, off, none⟩ ∧ F b ∧ Forest w F (.slice kA x.kids.length kc) x.kids ∧
    w.cell? ⟨b, off + j * 5, none⟩ = some (.int .u8 (x.kind : Int)) ∧ w.cell? ⟨b, off + j * 5 + 1, none⟩ = some (.string ⟨x.text.toArray⟩) ∧ w.cell? ⟨b, off + j * 5 + 2, none⟩ = some (.string ⟨x.sub.toArray⟩) ∧ w.cell? ⟨b, off + j * 5 + 3, none⟩ = some (.string ⟨x.see.toArray⟩) ∧ w.cell? ⟨b, off + j * 5 + 4, none⟩ = some (.slice kA x.kids.length kc) := by
  obtain ⟨A', c', e, _, hh⟩ := h.form
  injection e with e1 e2 e3
  subst e1
  obtain ⟨b, off, kv, h1, h2, h3, h4⟩ := hh j x hx
  obtain ⟨kA, kc, rfl, _⟩ := h3.form
  exact ⟨b, off, kA, kc, h1, h2, h3, h4⟩
theorem Forest.len {w : World} {F : Nat → Prop} {v : Value} {l : List Sp} (h : Forest w F v l) : ∃ A c, v = .slice A l.length c ∧ l.length ≤ c := by
  obtain ⟨A, c, e, hc, _⟩ := h.form
  exact ⟨A, c, e, hc⟩
theorem many_get : ∀ {l : List Sp} {j : Nat} {x : Sp}, l[j]? = some x → 1 + manyL x.kids ≤ manyL l
  | [], _, _, h => by simp at h
  | y :: l, 0, x, h => by
    simp at h
    subst h
    obtain ⟨k, t, u, v, ks⟩ := y
    simp only [manyL, many1]; omega
  | y :: l, j + 1, x, h => by
    have := many_get (l := l) (j := j) (by simpa using h)
    simp only [manyL]; omega
theorem many_len : ∀ l : List Sp, l.length ≤ manyL l
  | [] => Nat.zero_le _
  | ⟨k, t, u, v, ks⟩ :: l => by
    have := many_len l
    simp only [manyL, many1, List.length_cons]; omega
end Go.Bd
namespace Go.Proofs.YtmdbhdhfdldegaaGreatDoor
open Go.RowKit Go.Bd
end Go.Proofs.YtmdbhdhfdldegaaGreatDoor
namespace Go.Proofs.YtmdbhdhfdldegaaGreatDoor
open Go.RowKit Go.Bd
def SameOk (N : Nat) : Prop := ∀ (l m : List Sp), manyL l ≤ N → manyL l ≤ 1000000000 → ∀ (v u : Value) (w : World) (B : Nat), Forest w (· < B) v l → Forest w (· < B) u m → B ≤ w.heap.size →
    Calls Tryz.prog 15 #[v, u] w fun e w' => e = .returned (.bool (sameL l m)) ∧ Below B w w'
set_option maxRecDepth 100000 in
set_option maxHeartbeats 2000000 in
theorem same1_any {N : Nat} (ih : SameOk N) (x y : Sp) (hN : manyL x.kids ≤ N) (hm : manyL x.kids ≤ 1000000000) (v u : Value) (w : World) (B : Nat) (hF : Forest w (· < B) v x.kids) (hG : Forest w (· < B) u y.kids) (hB : B ≤ w.heap.size) :
    Calls Tryz.prog 34 #[.agg #[.int .u8 (x.kind : Int), .string ⟨x.text.toArray⟩, .string ⟨x.sub.toArray⟩, .string ⟨x.see.toArray⟩, v], .agg #[.int .u8 (y.kind : Int), .string ⟨y.text.toArray⟩, .string ⟨y.sub.toArray⟩, .string ⟨y.see.toArray⟩, u]] w fun e w' => e = .returned (.bool (same1 x y)) ∧ Below B w w' := by
  obtain ⟨A, c, rfl, hc⟩ := hF.len
  obtain ⟨A', c', rfl, hc'⟩ := hG.len
  have HF := Lib.hid hF
  have HG := Lib.hid hG
  have HS : Hid (same1 x y = (x.kind == y.kind && (x.text == y.text && (x.sub == y.sub && (x.see == y.see && sameL x.kids y.kids))))) := by
    unfold Hid
    obtain ⟨k, t, u, v, ks⟩ := x
    obtain ⟨k', t', u', v', ks'⟩ := y
    simp only [same1]
  have HI := Lib.hid ih
  clear hF hG ih
  go_enter Tryz.func34, Tryz.ntmps34
  go_wp2_with fail
  · have hkq : x.kind = y.kind := by omega
    have e1 : same1 x y = sameL x.kids y.kids := by
      rw [HS.out, hkq, ‹x.text = y.text›, ‹x.sub = y.sub›, ‹x.see = y.see›]
      simp only [beq_self_eq_true, Bool.true_and]
    have E1 := Lib.hid e1
    clear e1 hkq
    refine (HI.out x.kids y.kids hN hm _ _ _ B (HF.out.under (((Below.refl B w).alloc hB _).alloc (by simp; omega) _) (fun _ h => h)) (HG.out.under (((Below.refl B w).alloc hB _).alloc (by simp; omega) _) (fun _ h => h)) (by simp; omega)).mono ?_
    rintro e w2 ⟨rfl, hb2⟩
    have HB := Lib.hid ((((Below.refl B w).alloc hB _).alloc (by simp; omega) _).trans hb2)
    clear hb2
    go_wp2
    go_ret
    exact ⟨by rw [E1.out]; rfl, HB.out⟩
  all_goals
    have e1 : same1 x y = false := by
      rw [HS.out]
      have hk : (x.kind == y.kind) = decide ((x.kind : Int) = (y.kind : Int)) := by
        rw [Bool.eq_iff_iff]; simp only [beq_iff_eq, decide_eq_true_eq]; omega
      rw [hk]
      simp only [*, decide_false, Bool.false_and, Bool.and_false, beq_self_eq_true, Bool.true_and, Bool.and_eq_false_iff, beq_eq_false_iff_ne, ne_eq, not_false_eq_true, true_or, or_true, decide_true]
    have E1 := Lib.hid e1
    clear e1
    go_ret
    exact ⟨by rw [E1.out]; rfl, ((Below.refl B w).alloc hB _).alloc (by simp; omega) _⟩
theorem cellAlloc {w : World} {a : Addr} {v : Value} (o : Obj) (h : w.cell? a = some v) : (w.alloc o).cell? a = some v :=
  (World.cell?_of_block (Below.heap_alloc w o a.block (World.block_lt_of_cell? w _ h))).trans h
set_option maxRecDepth 100000 in
set_option maxHeartbeats 2000000 in
theorem equal_any {N : Nat} (ih : ∀ M, M < N → SameOk M) (l m : List Sp) (hN : manyL l ≤ N) (hm : manyL l ≤ 1000000000) (v u : Value) (w : World) (B : Nat) (hF : Forest w (· < B) v l) (hG : Forest w (· < B) u m) (hB : B ≤ w.heap.size) :
    Calls Tryz.prog 33 #[v, u, .func (.func 34) #[] #[]] w fun e w' => e = .returned (.bool (sameL l m)) ∧ Below B w w' := by
  obtain ⟨A, c, rfl, hc⟩ := hF.len
  obtain ⟨A', c', rfl, hc'⟩ := hG.len
  have hlm := many_len l
  by_cases hln : l.length = m.length
  · have HF := Lib.hid hF
    have HG := Lib.hid hG
    have HI := Lib.hid ih
    rw [← hln] at HG hc' ⊢
    obtain ⟨n, hn⟩ : ∃ n, l.length = n := ⟨_, rfl⟩
    have HN := Lib.hid hn
    have HN' := Lib.hid (hln.symm.trans hn)
    simp only [hn] at hc hc' hlm HF HG ⊢
    clear hF hG ih hln hn
    have HD : Hid (∀ b, sameL l m = b ↔ (if b = true then l = m else l ≠ m)) := fun b => by
      cases b with
      | true => simp [sameL_eq]
      | false =>
        rw [← Bool.not_eq_true, sameL_eq]; simp
    go_enter Tryz.func33, Tryz.ntmps33
    go_wp2
    go_loopg [17] n (fun q i wr => ∃ k : Nat, k + q = n ∧ i = .int .i64 (k : Int) ∧ Hid (l.take k = m.take k ∧ Below B w wr))
    case atStart => exact ⟨0, by omega, rfl, rfl, Below.refl _ _⟩
    case round =>
      obtain ⟨k, hk, rfl, HR⟩ := hrel
      by_cases hlt : k < n
      · obtain ⟨x, hx⟩ : ∃ x, l[k]? = some x := ⟨_, List.getElem?_eq_getElem (by rw [HN.out]; exact hlt)⟩
        obtain ⟨y, hy⟩ : ∃ y, m[k]? = some y := ⟨_, List.getElem?_eq_getElem (by rw [HN'.out]; exact hlt)⟩
        obtain ⟨b1, off, kA, kc, rfl, hb1, hkF, p0, p1, p2, p3, p4⟩ := HF.out.at hx
        obtain ⟨b2, off2, kA2, kc2, rfl, hb2, hkG, q0, q1, q2, q3, q4⟩ := HG.out.at hy
        have hbl := HR.out.2
        have hrb := hbl.size
        replace p0 := (hbl.cell (p := ⟨b1, off + k * 5, none⟩) hb1).trans p0
        replace p1 := (hbl.cell (p := ⟨b1, off + k * 5 + 1, none⟩) hb1).trans p1
        replace p2 := (hbl.cell (p := ⟨b1, off + k * 5 + 2, none⟩) hb1).trans p2
        replace p3 := (hbl.cell (p := ⟨b1, off + k * 5 + 3, none⟩) hb1).trans p3
        replace p4 := (hbl.cell (p := ⟨b1, off + k * 5 + 4, none⟩) hb1).trans p4
        replace q0 := cellAlloc (.cells #[.int .u8 (x.kind : Int), .string ⟨x.text.toArray⟩, .string ⟨x.sub.toArray⟩, .string ⟨x.see.toArray⟩, .slice kA x.kids.length kc] 32) ((hbl.cell (p := ⟨b2, off2 + k * 5, none⟩) hb2).trans q0)
        replace q1 := cellAlloc (.cells #[.int .u8 (x.kind : Int), .string ⟨x.text.toArray⟩, .string ⟨x.sub.toArray⟩, .string ⟨x.see.toArray⟩, .slice kA x.kids.length kc] 32) ((hbl.cell (p := ⟨b2, off2 + k * 5 + 1, none⟩) hb2).trans q1)
        replace q2 := cellAlloc (.cells #[.int .u8 (x.kind : Int), .string ⟨x.text.toArray⟩, .string ⟨x.sub.toArray⟩, .string ⟨x.see.toArray⟩, .slice kA x.kids.length kc] 32) ((hbl.cell (p := ⟨b2, off2 + k * 5 + 2, none⟩) hb2).trans q2)
        replace q3 := cellAlloc (.cells #[.int .u8 (x.kind : Int), .string ⟨x.text.toArray⟩, .string ⟨x.sub.toArray⟩, .string ⟨x.see.toArray⟩, .slice kA x.kids.length kc] 32) ((hbl.cell (p := ⟨b2, off2 + k * 5 + 3, none⟩) hb2).trans q3)
        replace q4 := cellAlloc (.cells #[.int .u8 (x.kind : Int), .string ⟨x.text.toArray⟩, .string ⟨x.sub.toArray⟩, .string ⟨x.see.toArray⟩, .slice kA x.kids.length kc] 32) ((hbl.cell (p := ⟨b2, off2 + k * 5 + 4, none⟩) hb2).trans q4)
        have hgt := many_get hx
        have HX := Lib.hid hx
        have HY := Lib.hid hy
        have HKF := Lib.hid (hkF.under hbl (fun _ h => h))
        have HKG := Lib.hid (hkG.under hbl (fun _ h => h))
        have HS1 := Lib.hid (same1_eq x y)
        clear hx hy hkF hkG hbl
        go_wp2_with fail
        refine (same1_any (HI.out (manyL x.kids) (by omega)) x y (Nat.le_refl _) (by omega) _ _ _ B (HKF.out.under (((Below.refl B wr).alloc (by omega) _).alloc (by simp; omega) _) (fun _ h => h)) (HKG.out.under (((Below.refl B wr).alloc (by omega) _).alloc (by simp; omega) _) (fun _ h => h)) (by simp; omega)).mono ?_
        rintro e w2 ⟨rfl, hb2⟩
        have HB2 := Lib.hid ((((Below.refl B wr).alloc (by omega) _).alloc (by simp; omega) _).trans hb2)
        clear hb2
        cases hs : same1 x y with
        | true =>
          have HE := Lib.hid (HS1.out.1 hs)
          clear hs
          go_wp2
          go_roundg (gk - 1)
          case measure => omega
          case rel => exact ⟨k + 1, by omega, by go_num, by rw [List.take_add_one, List.take_add_one, HX.out, HY.out, HE.out, HR.out.1], HR.out.2.trans HB2.out⟩
        | false =>
          have HE : Hid (x ≠ y) := fun e => by rw [HS1.out.2 e] at hs; cases hs
          clear hs
          go_wp2
          go_ret
          refine ⟨?_, HR.out.2.trans HB2.out⟩
          have e1 : sameL l m = false := (HD.out false).2 (by
            rw [if_neg (by decide)]
            rintro rfl
            have h1 := HX.out
            rw [HY.out] at h1
            injection h1 with h1
            exact HE.out h1.symm)
          rw [e1]; rfl
      · obtain rfl : k = n := by omega
        go_wp2
        go_ret
        have e1 : sameL l m = true := (HD.out true).2 (by
          rw [if_pos rfl]
          have h1 := HR.out.1
          rw [List.take_of_length_le (by rw [HN.out]; exact Nat.le_refl _), List.take_of_length_le (by rw [HN'.out]; exact Nat.le_refl _)] at h1
          exact h1)
        exact ⟨by rw [e1]; rfl, HR.out.2⟩
  · have e1 : sameL l m = false := by
      rw [← Bool.not_eq_true, sameL_eq]
      rintro rfl
      exact hln rfl
    have E1 := Lib.hid e1
    have t1 : ((l.length : Int) != (m.length : Int)) = true := by rw [bne_iff_ne]; omega
    have t2 : (l.length != m.length) = true := by rw [bne_iff_ne]; exact hln
    clear hF hG ih e1
    go_enter Tryz.func33, Tryz.ntmps33
    go_wp2
    go_ret
    exact ⟨by rw [E1.out]; rfl, Below.refl _ _⟩
theorem same_step {N : Nat} (ih : ∀ M, M < N → SameOk M) : SameOk N := by
  intro l m hN hm v u w B hF hG hB
  have ce := equal_any ih l m hN hm v u w B hF hG hB
  generalize sameL l m = b at ce ⊢
  clear hF hG ih
  go_enter Tryz.func15, Tryz.ntmps15
  go_wp2_with fail
  refine ce.mono ?_
  clear ce
  rintro e w2 ⟨rfl, hb⟩
  have HB := Lib.hid hb
  clear hb
  go_wp2
  go_ret
  exact ⟨rfl, HB.out⟩
theorem same_any (N : Nat) : SameOk N := by
  induction N using Nat.strongRecOn with
  | _ N ih => exact same_step ih
end Go.Proofs.YtmdbhdhfdldegaaGreatDoor
namespace Go.Proofs.YtmdbhdhfdldegaaGreatDoor
open Go.RowKit Go.Bd
theorem mk_toList (l : Bs) : (⟨l.toArray⟩ : ByteArray).toList = l := by
  first | (simp; done) | (rw [ByteArray.toList_eq_toList_data]; done) | (rw [Lib.toList_data]; done) | go_simp
theorem bytes_off {l m : Bs} (h : l ≠ m) {sx sy : ByteArray} (h1 : (⟨l.toArray⟩ : ByteArray) = sx) (h2 : (⟨m.toArray⟩ : ByteArray) = sy) : (!(sx.toList == sy.toList)) = true := by
  rw [← h1, ← h2, mk_toList, mk_toList]
  simpa using h
def RsameOk (N : Nat) : Prop := ∀ (l m : List Sp), manyL l ≤ N → manyL l ≤ 1000000000 → ∀ (v u : Value) (w : World) (F G : Nat → Prop), Forest w F v l → Forest w G u m →
    Calls Tryz.prog 18 #[v, u] w fun e w' => e = .returned (.bool (sameL l m)) ∧ ∃ d, w' = w.drewN d
set_option maxRecDepth 100000 in
set_option maxHeartbeats 4000000 in
theorem rsame_step {N : Nat} (ih : ∀ M, M < N → RsameOk M) : RsameOk N := by
  intro l m hN hm v u w F G hF hG
  obtain ⟨A, c, rfl, hc⟩ := hF.len
  obtain ⟨A', c', rfl, hc'⟩ := hG.len
  have hlm := many_len l
  by_cases hln : l.length = m.length
  · have HF := Lib.hid hF
    have HG := Lib.hid hG
    have HI := Lib.hid ih
    rw [← hln] at HG hc' ⊢
    obtain ⟨n, hn⟩ : ∃ n, l.length = n := ⟨_, rfl⟩
    have HN := Lib.hid hn
    have HN' := Lib.hid (hln.symm.trans hn)
    simp only [hn] at hc hc' hlm HF HG ⊢
    clear hF hG ih hln hn
    have HD : Hid (∀ b, sameL l m = b ↔ (if b = true then l = m else l ≠ m)) := fun b => by
      cases b with
      | true => simp [sameL_eq]
      | false =>
        rw [← Bool.not_eq_true, sameL_eq]; simp
    obtain ⟨bs, hbs⟩ : ∃ bs, sameL l m = bs := ⟨_, rfl⟩
    rw [hbs]
    have HB := Lib.hid hbs
    clear hbs
    go_enter Tryz.func18, Tryz.ntmps18
    go_wp2
    go_loopg [5] n (fun q i wr => ∃ k : Nat, k + q = n ∧ i = .int .i64 (k : Int) ∧ Hid (l.take k = m.take k ∧ ∃ d, wr = w.drewN d))
    case atStart => exact ⟨0, by omega, rfl, rfl, 0, rfl⟩
    case round =>
      obtain ⟨k, hk, rfl, HR⟩ := hrel
      obtain ⟨hpre, d, hd⟩ := HR.out
      have HPRE := Lib.hid hpre
      have HDR := Lib.hid hd
      clear HR hpre hd
      by_cases hlt : k < n
      · obtain ⟨x, hx⟩ : ∃ x, l[k]? = some x := ⟨_, List.getElem?_eq_getElem (by rw [HN.out]; exact hlt)⟩
        obtain ⟨y, hy⟩ : ∃ y, m[k]? = some y := ⟨_, List.getElem?_eq_getElem (by rw [HN'.out]; exact hlt)⟩
        obtain ⟨b1, off, kA, kc, rfl, hb1, hkF, p0, p1, p2, p3, p4⟩ := HF.out.at hx
        obtain ⟨b2, off2, kA2, kc2, rfl, hb2, hkG, q0, q1, q2, q3, q4⟩ := HG.out.at hy
        replace p0 := (congrArg (fun z : World => z.cell? ⟨b1, off + k * 5, none⟩) HDR.out).trans p0
        replace p1 := (congrArg (fun z : World => z.cell? ⟨b1, off + k * 5 + 1, none⟩) HDR.out).trans p1
        replace p2 := (congrArg (fun z : World => z.cell? ⟨b1, off + k * 5 + 2, none⟩) HDR.out).trans p2
        replace p3 := (congrArg (fun z : World => z.cell? ⟨b1, off + k * 5 + 3, none⟩) HDR.out).trans p3
        replace p4 := (congrArg (fun z : World => z.cell? ⟨b1, off + k * 5 + 4, none⟩) HDR.out).trans p4
        replace q0 := (congrArg (fun z : World => z.cell? ⟨b2, off2 + k * 5, none⟩) HDR.out).trans q0
        replace q1 := (congrArg (fun z : World => z.cell? ⟨b2, off2 + k * 5 + 1, none⟩) HDR.out).trans q1
        replace q2 := (congrArg (fun z : World => z.cell? ⟨b2, off2 + k * 5 + 2, none⟩) HDR.out).trans q2
        replace q3 := (congrArg (fun z : World => z.cell? ⟨b2, off2 + k * 5 + 3, none⟩) HDR.out).trans q3
        replace q4 := (congrArg (fun z : World => z.cell? ⟨b2, off2 + k * 5 + 4, none⟩) HDR.out).trans q4
        have hgt := many_get hx
        have HX := Lib.hid hx
        have HY := Lib.hid hy
        have HKF : Hid (Forest wr F _ _) := Lib.hid (HDR.out ▸ hkF.keep (w' := w.drewN d) (fun _ h => h) (fun _ _ _ h => h))
        have HKG : Hid (Forest wr G _ _) := Lib.hid (HDR.out ▸ hkG.keep (w' := w.drewN d) (fun _ h => h) (fun _ _ _ h => h))
        have HS1 := Lib.hid (same1_eq x y)
        have HS : Hid (same1 x y = (x.kind == y.kind && (x.text == y.text && (x.sub == y.sub && (x.see == y.see && sameL x.kids y.kids))))) := by
          unfold Hid
          obtain ⟨k, t, u, v, ks⟩ := x
          obtain ⟨k', t', u', v', ks'⟩ := y
          simp only [same1]
        have hz : 0 ≤ (k : Int) := by omega
        have hz1 : (k : Int) < (n : Int) := by omega
        clear hx hy hkF hkG
        by_cases e0 : x.kind = y.kind
        · rw [← e0] at q0
          by_cases e1 : x.text = y.text
          · rw [← e1] at q1
            by_cases e2 : x.sub = y.sub
            · rw [← e2] at q2
              by_cases e3 : x.see = y.see
              · rw [← e3] at q3
                have hci := HI.out (manyL x.kids) (by omega) x.kids y.kids (Nat.le_refl _) (by omega) _ _ wr F G HKF.out HKG.out
                have HCI : Hid (∀ n, Calls Tryz.prog 18 #[.slice kA x.kids.length kc, .slice kA2 y.kids.length kc2] (wr.drewN n) fun e w' => e = .returned (.bool (sameL x.kids y.kids)) ∧ ∃ d, w' = (wr.drewN n).drewN d) := fun n => HI.out (manyL x.kids) (by omega) x.kids y.kids (Nat.le_refl _) (by omega) _ _ _ F G (HKF.out.keep (fun _ h => h) (fun _ _ _ h => h)) (HKG.out.keep (fun _ h => h) (fun _ _ _ h => h))
                have e5 : same1 x y = sameL x.kids y.kids := by
                  rw [HS.out, e0, e1, e2, e3]
                  simp only [beq_self_eq_true, Bool.true_and]
                clear hci e0 e1 e2 e3
                cases hs : sameL x.kids y.kids with
                | true =>
                  rw [hs] at HCI e5
                  have HE := Lib.hid (HS1.out.1 e5)
                  clear hs e5
                  go_wp2
                  go_quiet ((go_at_call 18; exact Calls.quiet_of (HCI.out _)))
                  go_wp2
                  go_roundg (gk - 1)
                  case measure => omega
                  case rel => exact ⟨k + 1, by omega, by go_num, Lib.hid ⟨by rw [List.take_add_one, List.take_add_one, HX.out, HY.out, HE.out, HPRE.out], _, by rw [HDR.out, World.drewN_drewN]⟩⟩
                | false =>
                  rw [hs] at HCI e5
                  have HF9 : Hid (bs = false) := Lib.hid (HB.out.symm.trans ((HD.out false).2 (by
                    rw [if_neg (by decide)]
                    rintro rfl
                    have h1 := HX.out
                    rw [HY.out] at h1
                    injection h1 with h1
                    exact Bool.noConfusion (e5.symm.trans (HS1.out.2 h1.symm)))))
                  clear hs e5
                  go_wp2
                  go_quiet ((go_at_call 18; exact Calls.quiet_of (HCI.out _)))
                  go_wp2
                  go_ret
                  exact ⟨by rw [HF9.out]; rfl, _, by rw [HDR.out, World.drewN_drewN]⟩
              · obtain ⟨sx, hsx⟩ : ∃ sx, (⟨x.see.toArray⟩ : ByteArray) = sx := ⟨_, rfl⟩
                obtain ⟨sy, hsy⟩ : ∃ sy, (⟨y.see.toArray⟩ : ByteArray) = sy := ⟨_, rfl⟩
                have hne := bytes_off e3 hsx hsy
                have HF9 : Hid (bs = false) := Lib.hid (HB.out.symm.trans ((HD.out false).2 (by
                  rw [if_neg (by decide)]
                  rintro rfl
                  have h1 := HX.out
                  rw [HY.out] at h1
                  injection h1 with h1
                  exact e3 (by rw [h1]))))
                rw [hsx] at p3
                rw [hsy] at q3
                clear hsx hsy
                go_wp2
                go_quiet (fail)
                go_wp2
                go_ret
                exact ⟨by rw [HF9.out]; rfl, _, by rw [HDR.out, World.drewN_drewN]⟩
            · obtain ⟨sx, hsx⟩ : ∃ sx, (⟨x.sub.toArray⟩ : ByteArray) = sx := ⟨_, rfl⟩
              obtain ⟨sy, hsy⟩ : ∃ sy, (⟨y.sub.toArray⟩ : ByteArray) = sy := ⟨_, rfl⟩
              have hne := bytes_off e2 hsx hsy
              have HF9 : Hid (bs = false) := Lib.hid (HB.out.symm.trans ((HD.out false).2 (by
                rw [if_neg (by decide)]
                rintro rfl
                have h1 := HX.out
                rw [HY.out] at h1
                injection h1 with h1
                exact e2 (by rw [h1]))))
              rw [hsx] at p2
              rw [hsy] at q2
              clear hsx hsy
              go_wp2
              go_quiet (fail)
              go_wp2
              go_ret
              exact ⟨by rw [HF9.out]; rfl, _, by rw [HDR.out, World.drewN_drewN]⟩
          · obtain ⟨sx, hsx⟩ : ∃ sx, (⟨x.text.toArray⟩ : ByteArray) = sx := ⟨_, rfl⟩
            obtain ⟨sy, hsy⟩ : ∃ sy, (⟨y.text.toArray⟩ : ByteArray) = sy := ⟨_, rfl⟩
            have hne := bytes_off e1 hsx hsy
            have HF9 : Hid (bs = false) := Lib.hid (HB.out.symm.trans ((HD.out false).2 (by
              rw [if_neg (by decide)]
              rintro rfl
              have h1 := HX.out
              rw [HY.out] at h1
              injection h1 with h1
              exact e1 (by rw [h1]))))
            rw [hsx] at p1
            rw [hsy] at q1
            clear hsx hsy
            go_wp2
            go_quiet (fail)
            go_wp2
            go_ret
            exact ⟨by rw [HF9.out]; rfl, _, by rw [HDR.out, World.drewN_drewN]⟩
        · have d0 : ((x.kind : Int) != (y.kind : Int)) = true := bne_iff_ne.2 (by omega)
          have HF9 : Hid (bs = false) := Lib.hid (HB.out.symm.trans ((HD.out false).2 (by
            rw [if_neg (by decide)]
            rintro rfl
            have h1 := HX.out
            rw [HY.out] at h1
            injection h1 with h1
            exact e0 (by rw [h1]))))
          go_wp2
          go_quiet (fail)
          go_wp2
          go_ret
          exact ⟨by rw [HF9.out]; rfl, _, by rw [HDR.out, World.drewN_drewN]⟩
      · obtain rfl : k = n := by omega
        have HF9 : Hid (bs = true) := Lib.hid (HB.out.symm.trans ((HD.out true).2 (by
          rw [if_pos rfl]
          have h1 := HPRE.out
          rwa [List.take_of_length_le (by rw [HN.out]; exact Nat.le_refl _), List.take_of_length_le (by rw [HN'.out]; exact Nat.le_refl _)] at h1)))
        go_wp2
        go_ret
        exact ⟨by rw [HF9.out]; rfl, _, HDR.out⟩
  · have e1 : sameL l m = false := by
      cases hb : sameL l m with
      | false => rfl
      | true => exact absurd (congrArg List.length ((sameL_eq l m).1 hb)) hln
    rw [e1]
    have hl2 := many_len m
    obtain ⟨n, hn⟩ : ∃ n, l.length = n := ⟨_, rfl⟩
    obtain ⟨n2, hn2⟩ : ∃ n, m.length = n := ⟨_, rfl⟩
    rw [hn, hn2] at hln
    rw [hn, hn2]
    rw [hn] at hc
    rw [hn2] at hc'
    clear hF hG e1 ih
    go_enter Tryz.func18, Tryz.ntmps18
    go_wp2
    go_ret
    exact ⟨rfl, 0, rfl⟩
theorem rsame_any (N : Nat) : RsameOk N := by
  induction N using Nat.strongRecOn with
  | _ N ih => exact rsame_step ih
end Go.Proofs.YtmdbhdhfdldegaaGreatDoor
namespace Go.Bd
mutual
def putF1 : Sp → Bs × Bool
  | ⟨k, t, u, v, kids⟩ =>
    if k = 0 then (esc t, true)
    else if k = 1 then ([42] ++ ((putF kids).1 ++ [42]), (putF kids).2)
    else if k = 2 then ([95] ++ ((putF kids).1 ++ [95]), (putF kids).2)
    else if k = 3 then ([96] ++ t ++ [96], true)
    else if k = 4 then ([60, 60] ++ t ++ [62, 62], true)
    else if k = 5 then ([40, 40] ++ (if parseB (textL t u v) = some (t, u, v) then textL t u v else []) ++ [41, 41], decide (parseB (textL t u v) = some (t, u, v)))
    else if k = 6 then ([94, 91] ++ ((putF kids).1 ++ [93]), (putF kids).2)
    else ([], false)
def putF : List Sp → Bs × Bool
  | [] => ([], true)
  | x :: l => if (putF1 x).2 = true then ((putF1 x).1 ++ (putF l).1, (putF l).2) else ((putF1 x).1, false)
end
mutual
def wl1 : Sp → Nat
  | ⟨_, t, u, v, kids⟩ => 2 * (t.length + u.length + v.length) + 6 + wlL kids
def wlL : List Sp → Nat
  | [] => 0
  | x :: l => wl1 x + wlL l
end
theorem textL_len (a b c : Bs) : (textL a b c).length ≤ a.length + b.length + c.length + 2 := by
  unfold textL
  simp only [List.length_append]
  split <;> split <;> simp <;> omega
mutual
theorem putF1_len : ∀ x : Sp, (putF1 x).1.length ≤ wl1 x
  | ⟨k, t, u, v, kids⟩ => by
    have ih := putF_len kids
    have h1 := esc_len t
    have h2 := textL_len t u v
    simp only [putF1, wl1]
    have h3 : (if parseB (textL t u v) = some (t, u, v) then textL t u v else []).length ≤ t.length + u.length + v.length + 2 := by
      split
      · exact h2
      · simp
    generalize (if parseB (textL t u v) = some (t, u, v) then textL t u v else []) = q at h3 ⊢
    repeat (split; · simp only [List.length_append, List.length_cons, List.length_nil]; omega)
    simp
theorem putF_len : ∀ l : List Sp, (putF l).1.length ≤ wlL l
  | [] => Nat.le_refl _
  | x :: l => by
    have h1 := putF1_len x
    have h2 := putF_len l
    simp only [putF, wlL]
    split
    · simp only [List.length_append]; omega
    · simp only; omega
end
mutual
theorem putF1_put : ∀ x : Sp, put1 x = if (putF1 x).2 = true then some (putF1 x).1 else none
  | ⟨k, t, u, v, kids⟩ => by
    have ih := putF_put kids
    simp only [putF1, put1]
    repeat (split; · (first | rfl | (rw [ih]; split <;> simp_all) | simp_all))
    simp
theorem putF_put : ∀ l : List Sp, putL l = if (putF l).2 = true then some (putF l).1 else none
  | [] => rfl
  | x :: l => by
    have h1 := putF1_put x
    have h2 := putF_put l
    simp only [putF, putL, h1]
    by_cases h3 : (putF1 x).2 = true
    · simp only [if_pos h3, Option.bind_some, h2]
      split <;> simp
    · simp only [if_neg h3]; simp
end
theorem putF_snoc : ∀ {l : List Sp} (x : Sp), (putF l).2 = true → putF (l ++ [x]) = ((putF l).1 ++ (putF1 x).1, (putF1 x).2)
  | [], x, _ => by
    simp only [List.nil_append, putF]
    split
    · rename_i h; rw [h]; simp
    · rename_i h; simp only [Bool.not_eq_true] at h; rw [h]
  | y :: l, x, h => by
    rw [List.cons_append, putF, putF]
    rw [putF] at h
    split
    · rename_i hy
      rw [if_pos hy] at h
      rw [putF_snoc x h, List.append_assoc]
    · rename_i hy
      rw [if_neg hy] at h
      cases h
theorem putF_stop : ∀ {l : List Sp} (m : List Sp), (putF l).2 = false → putF (l ++ m) = ((putF l).1, false)
  | [], m, h => by cases h
  | y :: l, m, h => by
    rw [List.cons_append, putF, putF]
    rw [putF] at h
    split
    · rename_i hy
      rw [if_pos hy] at h
      rw [putF_stop m h]
    · rfl
theorem putF_take {l : List Sp} {k : Nat} {x : Sp} (h : l[k]? = some x) (hk : (putF (l.take k)).2 = true) : putF (l.take (k + 1)) = ((putF (l.take k)).1 ++ (putF1 x).1, (putF1 x).2) := by
  rw [List.take_add_one, h]
  exact putF_snoc x hk
theorem putF_fail {l : List Sp} {k : Nat} {x : Sp} (h : l[k]? = some x) (hk : (putF (l.take k)).2 = true) (hx : (putF1 x).2 = false) : putF l = ((putF (l.take k)).1 ++ (putF1 x).1, false) := by
  have h1 := putF_take h hk
  have h2 : (putF (l.take (k + 1))).2 = false := by rw [h1]; exact hx
  have h3 := putF_stop (l.drop (k + 1)) h2
  rw [List.take_append_drop] at h3
  rw [h3, h1]
theorem wlL_app : ∀ a b : List Sp, wlL (a ++ b) = wlL a + wlL b
  | [], b => by simp [wlL]
  | x :: a, b => by rw [List.cons_append, wlL, wlL, wlL_app a b, Nat.add_assoc]
theorem wl_get {l : List Sp} {k : Nat} {x : Sp} (h : l[k]? = some x) : wlL (l.take k) + wl1 x ≤ wlL l := by
  have e : l = l.take (k + 1) ++ l.drop (k + 1) := (List.take_append_drop _ _).symm
  have e2 : l.take (k + 1) = l.take k ++ [x] := by rw [List.take_add_one, h]; rfl
  conv => rhs; rw [e, wlL_app, e2, wlL_app]
  simp only [wlL]; omega
theorem wl1_eq (x : Sp) : wl1 x = 2 * (x.text.length + x.sub.length + x.see.length) + 6 + wlL x.kids := by
  obtain ⟨k, t, u, v, ks⟩ := x
  simp only [wl1]
theorem putF1_eq (x : Sp) : putF1 x = if x.kind = 0 then (esc x.text, true)
    else if x.kind = 1 then ([42] ++ ((putF x.kids).1 ++ [42]), (putF x.kids).2)
    else if x.kind = 2 then ([95] ++ ((putF x.kids).1 ++ [95]), (putF x.kids).2)
    else if x.kind = 3 then ([96] ++ x.text ++ [96], true)
    else if x.kind = 4 then ([60, 60] ++ x.text ++ [62, 62], true)
    else if x.kind = 5 then ([40, 40] ++ (if parseB (textL x.text x.sub x.see) = some (x.text, x.sub, x.see) then textL x.text x.sub x.see else []) ++ [41, 41], decide (parseB (textL x.text x.sub x.see) = some (x.text, x.sub, x.see)))
    else if x.kind = 6 then ([94, 91] ++ ((putF x.kids).1 ++ [93]), (putF x.kids).2)
    else ([], false) := by
  obtain ⟨k, t, u, v, ks⟩ := x
  simp only [putF1]
theorem esc_snoc : ∀ (l : Bs) (c : UInt8), esc (l ++ [c]) = esc l ++ if escB c = true then [92, c] else [c]
  | [], c => by simp only [List.nil_append, esc]
  | a :: l, c => by
    rw [List.cons_append, esc, esc, esc_snoc l c]
    split <;> simp
theorem textOf_F (l : List Sp) : textOf l = if (putF l).2 = true ∧ faultsAt (putF l).1 = [] ∧ sameL (spansOf (putF l).1) l = true then some (putF l).1 else none := by
  unfold textOf
  rw [putF_put]
  cases h : (putF l).2 with
  | true => simp
  | false => simp
end Go.Bd
namespace Go.Bd
def tx5 (a b c : Bs) : Bs := if parseB (textL a b c) = some (a, b, c) then textL a b c else []
mutual
def wr1 : Sp → Bs
  | ⟨k, t, u, v, kids⟩ =>
    if k = 0 then esc t
    else if k = 1 then 42 :: (wrL kids ++ [42])
    else if k = 2 then 95 :: (wrL kids ++ [95])
    else if k = 3 then 96 :: (t ++ [96])
    else if k = 4 then 60 :: 60 :: (t ++ [62, 62])
    else if k = 5 then 40 :: 40 :: (tx5 t u v ++ [41, 41])
    else if k = 6 then 94 :: 91 :: (wrL kids ++ [93])
    else []
def wrL : List Sp → Bs
  | [] => []
  | x :: l => wr1 x ++ wrL l
end
theorem wr1_eq (x : Sp) : wr1 x = if x.kind = 0 then esc x.text
    else if x.kind = 1 then 42 :: (wrL x.kids ++ [42])
    else if x.kind = 2 then 95 :: (wrL x.kids ++ [95])
    else if x.kind = 3 then 96 :: (x.text ++ [96])
    else if x.kind = 4 then 60 :: 60 :: (x.text ++ [62, 62])
    else if x.kind = 5 then 40 :: 40 :: (tx5 x.text x.sub x.see ++ [41, 41])
    else if x.kind = 6 then 94 :: 91 :: (wrL x.kids ++ [93])
    else [] := by obtain ⟨k, t, u, v, ks⟩ := x; simp only [wr1]
theorem wrL_app : ∀ a b : List Sp, wrL (a ++ b) = wrL a ++ wrL b
  | [], _ => by simp [wrL]
  | x :: a, b => by rw [List.cons_append, wrL, wrL, wrL_app a b, List.append_assoc]
theorem wrL_take {l : List Sp} {k : Nat} {x : Sp} (h : l[k]? = some x) : wrL (l.take (k + 1)) = wrL (l.take k) ++ wr1 x := by
  rw [List.take_add_one, h, wrL_app]
  simp [wrL]
theorem tx5_len (a b c : Bs) : (tx5 a b c).length ≤ a.length + b.length + c.length + 2 := by
  unfold tx5
  split
  · exact textL_len a b c
  · simp
mutual
theorem wr1_len : ∀ x : Sp, (wr1 x).length ≤ wl1 x
  | ⟨k, t, u, v, kids⟩ => by
    have ih := wrL_len kids
    have h1 := esc_len t
    have h2 := tx5_len t u v
    simp only [wr1, wl1]
    repeat' split
    all_goals (try simp only [List.length_cons, List.length_append, List.length_nil])
    all_goals omega
theorem wrL_len : ∀ l : List Sp, (wrL l).length ≤ wlL l
  | [] => by simp [wrL]
  | x :: l => by
    have h1 := wr1_len x
    have h2 := wrL_len l
    simp only [wrL, wlL, List.length_append]
    omega
end
mutual
theorem put1_wr : ∀ (x : Sp) (b : Bs), put1 x = some b → wr1 x = b
  | ⟨k, t, u, v, kids⟩, b, h => by
    have ih := putL_wr kids
    simp only [put1] at h
    simp only [wr1]
    split at h
    · rw [if_pos ‹_›]; injection h
    rw [if_neg ‹_›]
    split at h
    · rw [if_pos ‹_›]
      cases hq : putL kids with
      | none => rw [hq] at h; cases h
      | some c => rw [hq] at h; rw [ih c hq]; injection h
    rw [if_neg ‹_›]
    split at h
    · rw [if_pos ‹_›]
      cases hq : putL kids with
      | none => rw [hq] at h; cases h
      | some c => rw [hq] at h; rw [ih c hq]; injection h
    rw [if_neg ‹_›]
    split at h
    · rw [if_pos ‹_›]; injection h
    rw [if_neg ‹_›]
    split at h
    · rw [if_pos ‹_›]; injection h
    rw [if_neg ‹_›]
    split at h
    · rw [if_pos ‹_›]
      split at h
      · unfold tx5
        rw [if_pos ‹_›]; injection h
      · cases h
    rw [if_neg ‹_›]
    split at h
    · rw [if_pos ‹_›]
      cases hq : putL kids with
      | none => rw [hq] at h; cases h
      | some c => rw [hq] at h; rw [ih c hq]; injection h
    · cases h
theorem putL_wr : ∀ (l : List Sp) (b : Bs), putL l = some b → wrL l = b
  | [], b, h => by simp only [putL] at h; simp only [wrL]; injection h
  | x :: l, b, h => by
    simp only [putL] at h
    cases h1 : put1 x with
    | none => rw [h1] at h; cases h
    | some c =>
      rw [h1] at h
      cases h2 : putL l with
      | none => rw [h2] at h; cases h
      | some d =>
        rw [h2] at h
        simp only [wrL]
        rw [put1_wr x c h1, putL_wr l d h2]
        injection h
end
end Go.Bd
namespace Go.Proofs.YtmdbhdhfdldegaaGreatDoor
open Go.RowKit Go.Bd
def textV (a b c : Bs) : Value := if parseB (textL a b c) = some (a, b, c) then .tuple #[strV (textL a b c), .int .i64 0] else .tuple #[strV [], .int .i64 1]
theorem sz59 : (⟨#[59]⟩ : ByteArray).size = 1 := rfl
theorem sz62 : (⟨#[62]⟩ : ByteArray).size = 1 := rfl
theorem emptyB (b : ByteArray) : (b.toList = [] ∧ b.toList.isEmpty = true) ∨ (¬ b.toList = [] ∧ b.toList.isEmpty = false) := by
  by_cases h : b.toList = []
  · exact .inl ⟨h, by rw [h]; rfl⟩
  · exact .inr ⟨h, by simpa using h⟩
theorem textV_yes {la lb lc tl x y z : Bs} (htl : textL la lb lc = tl) (hp : parseB tl = some (x, y, z)) (hx : x = la) (hy : y = lb) (hz : z = lc) : textV la lb lc = .tuple #[strV tl, .int .i64 0] := by
  subst hx hy hz; rw [textV, htl, if_pos hp]
theorem textV_no {la lb lc tl x y z : Bs} (htl : textL la lb lc = tl) (hp : parseB tl = some (x, y, z)) (h : ¬ (x = la ∧ y = lb ∧ z = lc)) : textV la lb lc = .tuple #[strV [], .int .i64 1] := by
  rw [textV, htl, hp, if_neg]; intro e; exact h (by simpa using e)
set_option maxHeartbeats 1000000 in
theorem Text_any (a b c : ByteArray) (w : World) (m : Int) (hm : w.cell? ⟨0, 0, none⟩ = some (.int .i64 m)) (ha : a.size ≤ 140737488355328) (hb : b.size ≤ 140737488355328) (hc : c.size ≤ 140737488355328) :
    Calls Tryz.prog 25 #[.string a, .string b, .string c] w fun e w' => e = .returned (textV a.data.toList b.data.toList c.data.toList) ∧ Below w.heap.size w w' := by
  rcases emptyB b with ⟨h1, h1'⟩ | ⟨h1, h1'⟩ <;> rcases emptyB c with ⟨h2, h2'⟩ | ⟨h2, h2'⟩
  · have ht : (a : ByteArray).data.toList = textL a.data.toList b.data.toList c.data.toList := by
      rw [ByteArray.toList_eq] at h1 h2
      simp [textL, h1, h2]
    have hz : a.size ≤ 9223372036854775807 := by omega
    have cp := parse_any a m w hz hm
    rw [ht] at cp
    generalize htl : textL a.data.toList b.data.toList c.data.toList = tl at cp ht
    go_enter Tryz.func25, Tryz.ntmps25
    go_wp2_with fail
    have HT := Lib.hid ht
    clear ht hz
    cases hp : parseB tl with
    | none =>
      have HV : Hid (textV a.data.toList b.data.toList c.data.toList = .tuple #[strV [], .int .i64 1]) := by
        unfold Hid; rw [textV, htl, hp]; exact if_neg (by simp)
      rw [parseP_none hp] at cp
      clear hp htl
      refine cp.mono ?_
      rintro e w1 ⟨rfl, hb1⟩
      rw [strV]
      go_wp2
      go_ret2
      exact ⟨congrArg Ending.returned HV.out.symm, hb1.alloc hb1.size _⟩
    | some p =>
      obtain ⟨x, y, z⟩ := p
      rw [parseP_some hp] at cp
      have HP := Lib.hid hp
      have HTL := Lib.hid htl
      clear hp htl
      refine cp.mono ?_
      rintro e w1 ⟨rfl, hb1⟩
      rw [strV, strV, strV]
      go_wp2
      all_goals
        go_ret2
        refine ⟨congrArg Ending.returned ?_, hb1.alloc hb1.size _⟩
        go_light
        simp only [ByteArray.toList_eq] at *
        first
          | (rw [textV_no HTL.out HP.out (by simp_all)]; rfl)
          | (rw [textV_yes HTL.out HP.out (by simp_all) (by simp_all) (by simp_all), strV, ← mk_of HT.out]; rfl)
  · have ht : ((a ++ (⟨#[62]⟩ ++ c)) : ByteArray).data.toList = textL a.data.toList b.data.toList c.data.toList := by
      rw [ByteArray.toList_eq] at h1 h2
      simp [textL, h1, h2]
    have hz : ((a ++ (⟨#[62]⟩ ++ c)) : ByteArray).size ≤ 9223372036854775807 := by simp only [ByteArray.size_append, sz62]; omega
    have cp := parse_any (a ++ (⟨#[62]⟩ ++ c)) m w hz hm
    rw [ht] at cp
    generalize htl : textL a.data.toList b.data.toList c.data.toList = tl at cp ht
    go_enter Tryz.func25, Tryz.ntmps25
    go_wp2_with fail
    generalize (a ++ (⟨#[62]⟩ ++ c)) = t at cp ht ⊢
    have HT := Lib.hid ht
    clear ht hz
    cases hp : parseB tl with
    | none =>
      have HV : Hid (textV a.data.toList b.data.toList c.data.toList = .tuple #[strV [], .int .i64 1]) := by
        unfold Hid; rw [textV, htl, hp]; exact if_neg (by simp)
      rw [parseP_none hp] at cp
      clear hp htl
      refine cp.mono ?_
      rintro e w1 ⟨rfl, hb1⟩
      rw [strV]
      go_wp2
      go_ret2
      exact ⟨congrArg Ending.returned HV.out.symm, hb1.alloc hb1.size _⟩
    | some p =>
      obtain ⟨x, y, z⟩ := p
      rw [parseP_some hp] at cp
      have HP := Lib.hid hp
      have HTL := Lib.hid htl
      clear hp htl
      refine cp.mono ?_
      rintro e w1 ⟨rfl, hb1⟩
      rw [strV, strV, strV]
      go_wp2
      all_goals
        go_ret2
        refine ⟨congrArg Ending.returned ?_, hb1.alloc hb1.size _⟩
        go_light
        simp only [ByteArray.toList_eq] at *
        first
          | (rw [textV_no HTL.out HP.out (by simp_all)]; rfl)
          | (rw [textV_yes HTL.out HP.out (by simp_all) (by simp_all) (by simp_all), strV, ← mk_of HT.out]; rfl)
  · have ht : ((a ++ (⟨#[59]⟩ ++ b)) : ByteArray).data.toList = textL a.data.toList b.data.toList c.data.toList := by
      rw [ByteArray.toList_eq] at h1 h2
      simp [textL, h1, h2]
    have hz : ((a ++ (⟨#[59]⟩ ++ b)) : ByteArray).size ≤ 9223372036854775807 := by simp only [ByteArray.size_append, sz59]; omega
    have cp := parse_any (a ++ (⟨#[59]⟩ ++ b)) m w hz hm
    rw [ht] at cp
    generalize htl : textL a.data.toList b.data.toList c.data.toList = tl at cp ht
    go_enter Tryz.func25, Tryz.ntmps25
    go_wp2_with fail
    generalize (a ++ (⟨#[59]⟩ ++ b)) = t at cp ht ⊢
    have HT := Lib.hid ht
    clear ht hz
    cases hp : parseB tl with
    | none =>
      have HV : Hid (textV a.data.toList b.data.toList c.data.toList = .tuple #[strV [], .int .i64 1]) := by
        unfold Hid; rw [textV, htl, hp]; exact if_neg (by simp)
      rw [parseP_none hp] at cp
      clear hp htl
      refine cp.mono ?_
      rintro e w1 ⟨rfl, hb1⟩
      rw [strV]
      go_wp2
      go_ret2
      exact ⟨congrArg Ending.returned HV.out.symm, hb1.alloc hb1.size _⟩
    | some p =>
      obtain ⟨x, y, z⟩ := p
      rw [parseP_some hp] at cp
      have HP := Lib.hid hp
      have HTL := Lib.hid htl
      clear hp htl
      refine cp.mono ?_
      rintro e w1 ⟨rfl, hb1⟩
      rw [strV, strV, strV]
      go_wp2
      all_goals
        go_ret2
        refine ⟨congrArg Ending.returned ?_, hb1.alloc hb1.size _⟩
        go_light
        simp only [ByteArray.toList_eq] at *
        first
          | (rw [textV_no HTL.out HP.out (by simp_all)]; rfl)
          | (rw [textV_yes HTL.out HP.out (by simp_all) (by simp_all) (by simp_all), strV, ← mk_of HT.out]; rfl)
  · have ht : (((a ++ (⟨#[59]⟩ ++ b)) ++ (⟨#[62]⟩ ++ c)) : ByteArray).data.toList = textL a.data.toList b.data.toList c.data.toList := by
      rw [ByteArray.toList_eq] at h1 h2
      simp [textL, h1, h2]
    have hz : (((a ++ (⟨#[59]⟩ ++ b)) ++ (⟨#[62]⟩ ++ c)) : ByteArray).size ≤ 9223372036854775807 := by simp only [ByteArray.size_append, sz59, sz62]; omega
    have cp := parse_any ((a ++ (⟨#[59]⟩ ++ b)) ++ (⟨#[62]⟩ ++ c)) m w hz hm
    rw [ht] at cp
    generalize htl : textL a.data.toList b.data.toList c.data.toList = tl at cp ht
    go_enter Tryz.func25, Tryz.ntmps25
    go_wp2_with fail
    generalize ((a ++ (⟨#[59]⟩ ++ b)) ++ (⟨#[62]⟩ ++ c)) = t at cp ht ⊢
    have HT := Lib.hid ht
    clear ht hz
    cases hp : parseB tl with
    | none =>
      have HV : Hid (textV a.data.toList b.data.toList c.data.toList = .tuple #[strV [], .int .i64 1]) := by
        unfold Hid; rw [textV, htl, hp]; exact if_neg (by simp)
      rw [parseP_none hp] at cp
      clear hp htl
      refine cp.mono ?_
      rintro e w1 ⟨rfl, hb1⟩
      rw [strV]
      go_wp2
      go_ret2
      exact ⟨congrArg Ending.returned HV.out.symm, hb1.alloc hb1.size _⟩
    | some p =>
      obtain ⟨x, y, z⟩ := p
      rw [parseP_some hp] at cp
      have HP := Lib.hid hp
      have HTL := Lib.hid htl
      clear hp htl
      refine cp.mono ?_
      rintro e w1 ⟨rfl, hb1⟩
      rw [strV, strV, strV]
      go_wp2
      all_goals
        go_ret2
        refine ⟨congrArg Ending.returned ?_, hb1.alloc hb1.size _⟩
        go_light
        simp only [ByteArray.toList_eq] at *
        first
          | (rw [textV_no HTL.out HP.out (by simp_all)]; rfl)
          | (rw [textV_yes HTL.out HP.out (by simp_all) (by simp_all) (by simp_all), strV, ← mk_of HT.out]; rfl)
end Go.Proofs.YtmdbhdhfdldegaaGreatDoor
namespace Go.Proofs.YtmdbhdhfdldegaaGreatDoor.R7
open Go.RowKit Go.Bd Go.Proofs.YtmdbhdhfdldegaaGreatDoor
set_option maxHeartbeats 1000000 in
theorem refText_any (a b c : ByteArray) (w : World) (ha : a.size ≤ 140737488355328) (hb : b.size ≤ 140737488355328) (hc : c.size ≤ 140737488355328) :
    Calls Tryz.prog 36 #[.string a, .string b, .string c] w fun e w' => e = .returned (textV a.data.toList b.data.toList c.data.toList) ∧ w = w' := by
  rcases emptyB b with ⟨h1, h1'⟩ | ⟨h1, h1'⟩ <;> rcases emptyB c with ⟨h2, h2'⟩ | ⟨h2, h2'⟩
  · have ht : (a : ByteArray).data.toList = textL a.data.toList b.data.toList c.data.toList := by
      rw [ByteArray.toList_eq] at h1 h2
      simp [textL, h1, h2]
    have hz : a.size ≤ 9223372036854775807 := by omega
    have cp := refParse_any a w hz
    rw [ht] at cp
    generalize htl : textL a.data.toList b.data.toList c.data.toList = tl at cp ht
    go_enter Tryz.func36, Tryz.ntmps36
    go_wp2_with fail
    have HT := Lib.hid ht
    clear ht hz
    cases hp : parseB tl with
    | none =>
      have HV : Hid (textV a.data.toList b.data.toList c.data.toList = .tuple #[strV [], .int .i64 1]) := by
        unfold Hid; rw [textV, htl, hp]; exact if_neg (by simp)
      rw [parseV_none hp] at cp
      clear hp htl
      refine cp.mono ?_
      rintro e w1 ⟨rfl, rfl⟩
      rw [strV]
      go_wp2
      go_ret2
      exact ⟨congrArg Ending.returned HV.out.symm, rfl⟩
    | some p =>
      obtain ⟨x, y, z⟩ := p
      rw [parseV_some hp] at cp
      have HP := Lib.hid hp
      have HTL := Lib.hid htl
      clear hp htl
      refine cp.mono ?_
      rintro e w1 ⟨rfl, rfl⟩
      rw [strV, strV, strV]
      go_wp2
      all_goals
        go_ret2
        refine ⟨congrArg Ending.returned ?_, rfl⟩
        go_light
        simp only [ByteArray.toList_eq] at *
        first
          | (rw [textV_no HTL.out HP.out (by simp_all)]; rfl)
          | (rw [textV_yes HTL.out HP.out (by simp_all) (by simp_all) (by simp_all), strV, ← mk_of HT.out]; rfl)
  · have ht : ((a ++ ⟨#[62]⟩ ++ c) : ByteArray).data.toList = textL a.data.toList b.data.toList c.data.toList := by
      rw [ByteArray.toList_eq] at h1 h2
      simp [textL, h1, h2]
    have hz : ((a ++ ⟨#[62]⟩ ++ c) : ByteArray).size ≤ 9223372036854775807 := by simp only [ByteArray.size_append, sz62]; omega
    have cp := refParse_any (a ++ ⟨#[62]⟩ ++ c) w hz
    rw [ht] at cp
    generalize htl : textL a.data.toList b.data.toList c.data.toList = tl at cp ht
    go_enter Tryz.func36, Tryz.ntmps36
    go_wp2_with fail
    generalize (a ++ ⟨#[62]⟩ ++ c) = t at cp ht ⊢
    have HT := Lib.hid ht
    clear ht hz
    cases hp : parseB tl with
    | none =>
      have HV : Hid (textV a.data.toList b.data.toList c.data.toList = .tuple #[strV [], .int .i64 1]) := by
        unfold Hid; rw [textV, htl, hp]; exact if_neg (by simp)
      rw [parseV_none hp] at cp
      clear hp htl
      refine cp.mono ?_
      rintro e w1 ⟨rfl, rfl⟩
      rw [strV]
      go_wp2
      go_ret2
      exact ⟨congrArg Ending.returned HV.out.symm, rfl⟩
    | some p =>
      obtain ⟨x, y, z⟩ := p
      rw [parseV_some hp] at cp
      have HP := Lib.hid hp
      have HTL := Lib.hid htl
      clear hp htl
      refine cp.mono ?_
      rintro e w1 ⟨rfl, rfl⟩
      rw [strV, strV, strV]
      go_wp2
      all_goals
        go_ret2
        refine ⟨congrArg Ending.returned ?_, rfl⟩
        go_light
        simp only [ByteArray.toList_eq] at *
        first
          | (rw [textV_no HTL.out HP.out (by simp_all)]; rfl)
          | (rw [textV_yes HTL.out HP.out (by simp_all) (by simp_all) (by simp_all), strV, ← mk_of HT.out]; rfl)
  · have ht : ((a ++ ⟨#[59]⟩ ++ b) : ByteArray).data.toList = textL a.data.toList b.data.toList c.data.toList := by
      rw [ByteArray.toList_eq] at h1 h2
      simp [textL, h1, h2]
    have hz : ((a ++ ⟨#[59]⟩ ++ b) : ByteArray).size ≤ 9223372036854775807 := by simp only [ByteArray.size_append, sz59]; omega
    have cp := refParse_any (a ++ ⟨#[59]⟩ ++ b) w hz
    rw [ht] at cp
    generalize htl : textL a.data.toList b.data.toList c.data.toList = tl at cp ht
    go_enter Tryz.func36, Tryz.ntmps36
    go_wp2_with fail
    generalize (a ++ ⟨#[59]⟩ ++ b) = t at cp ht ⊢
    have HT := Lib.hid ht
    clear ht hz
    cases hp : parseB tl with
    | none =>
      have HV : Hid (textV a.data.toList b.data.toList c.data.toList = .tuple #[strV [], .int .i64 1]) := by
        unfold Hid; rw [textV, htl, hp]; exact if_neg (by simp)
      rw [parseV_none hp] at cp
      clear hp htl
      refine cp.mono ?_
      rintro e w1 ⟨rfl, rfl⟩
      rw [strV]
      go_wp2
      go_ret2
      exact ⟨congrArg Ending.returned HV.out.symm, rfl⟩
    | some p =>
      obtain ⟨x, y, z⟩ := p
      rw [parseV_some hp] at cp
      have HP := Lib.hid hp
      have HTL := Lib.hid htl
      clear hp htl
      refine cp.mono ?_
      rintro e w1 ⟨rfl, rfl⟩
      rw [strV, strV, strV]
      go_wp2
      all_goals
        go_ret2
        refine ⟨congrArg Ending.returned ?_, rfl⟩
        go_light
        simp only [ByteArray.toList_eq] at *
        first
          | (rw [textV_no HTL.out HP.out (by simp_all)]; rfl)
          | (rw [textV_yes HTL.out HP.out (by simp_all) (by simp_all) (by simp_all), strV, ← mk_of HT.out]; rfl)
  · have ht : (((a ++ ⟨#[59]⟩ ++ b) ++ ⟨#[62]⟩ ++ c) : ByteArray).data.toList = textL a.data.toList b.data.toList c.data.toList := by
      rw [ByteArray.toList_eq] at h1 h2
      simp [textL, h1, h2]
    have hz : (((a ++ ⟨#[59]⟩ ++ b) ++ ⟨#[62]⟩ ++ c) : ByteArray).size ≤ 9223372036854775807 := by simp only [ByteArray.size_append, sz59, sz62]; omega
    have cp := refParse_any ((a ++ ⟨#[59]⟩ ++ b) ++ ⟨#[62]⟩ ++ c) w hz
    rw [ht] at cp
    generalize htl : textL a.data.toList b.data.toList c.data.toList = tl at cp ht
    go_enter Tryz.func36, Tryz.ntmps36
    go_wp2_with fail
    generalize ((a ++ ⟨#[59]⟩ ++ b) ++ ⟨#[62]⟩ ++ c) = t at cp ht ⊢
    have HT := Lib.hid ht
    clear ht hz
    cases hp : parseB tl with
    | none =>
      have HV : Hid (textV a.data.toList b.data.toList c.data.toList = .tuple #[strV [], .int .i64 1]) := by
        unfold Hid; rw [textV, htl, hp]; exact if_neg (by simp)
      rw [parseV_none hp] at cp
      clear hp htl
      refine cp.mono ?_
      rintro e w1 ⟨rfl, rfl⟩
      rw [strV]
      go_wp2
      go_ret2
      exact ⟨congrArg Ending.returned HV.out.symm, rfl⟩
    | some p =>
      obtain ⟨x, y, z⟩ := p
      rw [parseV_some hp] at cp
      have HP := Lib.hid hp
      have HTL := Lib.hid htl
      clear hp htl
      refine cp.mono ?_
      rintro e w1 ⟨rfl, rfl⟩
      rw [strV, strV, strV]
      go_wp2
      all_goals
        go_ret2
        refine ⟨congrArg Ending.returned ?_, rfl⟩
        go_light
        simp only [ByteArray.toList_eq] at *
        first
          | (rw [textV_no HTL.out HP.out (by simp_all)]; rfl)
          | (rw [textV_yes HTL.out HP.out (by simp_all) (by simp_all) (by simp_all), strV, ← mk_of HT.out]; rfl)
end Go.Proofs.YtmdbhdhfdldegaaGreatDoor.R7
namespace Go.Proofs.YtmdbhdhfdldegaaGreatDoor
open Go.RowKit Go.Bd
theorem one_list9 (s : ByteArray) (i : Nat) (h : i < s.size) : s.extract i (i + 1) = ⟨[s[i]].toArray⟩ := by
  have hl : i < s.data.toList.length := by simpa using h
  have e := mk_cut s i (i + 1)
  have e2 : s.data.toList[i] = s[i] := by first | rfl | simp [ByteArray.getElem_eq_getElem_data]
  rw [← e, Nat.add_sub_cancel_left, List.drop_eq_getElem_cons hl, e2]
  rfl
def WrOk (N : Nat) : Prop := ∀ (l : List Sp), manyL l ≤ N → manyL l ≤ 1000000000 → wlL l ≤ 1000000 → ∀ (v : Value) (w : World) (B : Nat), Forest w (· < B) v l → B ≤ w.heap.size →
    Calls Tryz.prog 16 #[v] w fun e w' => e = .returned (.string ⟨(wrL l).toArray⟩) ∧ Below B w w'
theorem text5_any (a b c : Bs) (h : a.length + b.length + c.length ≤ 1000000) (w : World) :
    Calls Tryz.prog 36 #[.string ⟨a.toArray⟩, .string ⟨b.toArray⟩, .string ⟨c.toArray⟩] w fun e w' => (∃ n : Int, e = .returned (.tuple #[.string ⟨(tx5 a b c).toArray⟩, .int .i64 n])) ∧ w = w' := by
  refine (R7.refText_any ⟨a.toArray⟩ ⟨b.toArray⟩ ⟨c.toArray⟩ w (by show a.toArray.size ≤ _; simp; omega) (by show b.toArray.size ≤ _; simp; omega) (by show c.toArray.size ≤ _; simp; omega)).mono ?_
  rintro e w' ⟨rfl, rfl⟩
  refine ⟨?_, rfl⟩
  unfold textV tx5
  by_cases hp : parseB (textL a b c) = some (a, b, c)
  · exact ⟨0, by rw [if_pos hp]; simp only [List.toList_toArray, hp, if_true]; rfl⟩
  · exact ⟨1, by rw [if_neg hp]; simp only [List.toList_toArray, hp, if_false]; rfl⟩
set_option maxRecDepth 100000 in
set_option maxHeartbeats 4000000 in
theorem wr_step {N : Nat} (ih : ∀ M, M < N → WrOk M) : WrOk N := by
  intro l hN hm hw v w B hF hB
  obtain ⟨A, c, rfl, hc⟩ := hF.len
  have hlm := many_len l
  have HF := Lib.hid hF
  have HI := Lib.hid ih
  obtain ⟨n, hn⟩ : ∃ n, l.length = n := ⟨_, rfl⟩
  have HN := Lib.hid hn
  simp only [hn] at hc hlm HF ⊢
  have HW := Lib.hid hw
  have hw5 : wlL l ≤ 1000000 := hw
  obtain ⟨res, hres⟩ : ∃ res, wrL l = res := ⟨_, rfl⟩
  have HRES := Lib.hid hres
  rw [hres]
  clear hF ih hn hres
  go_enter Tryz.func16, Tryz.ntmps16
  go_wp2_with fail
  go_loopg [3, 4] n (fun q sv iv wr => ∃ (k : Nat) (acc : Bs), k + q = n ∧ iv = .int .i64 (k : Int) ∧ sv = .string ⟨acc.toArray⟩ ∧ acc.length ≤ 1000000 ∧ Hid (acc = wrL (l.take k) ∧ Below B w wr))
  case atStart => exact ⟨0, [], by omega, rfl, rfl, by simp, Lib.hid ⟨rfl, Below.refl _ _⟩⟩
  case round =>
    obtain ⟨k, acc, hk, rfl, rfl, hacc, HR⟩ := hrel
    by_cases hlt : k < n
    · obtain ⟨x, hx⟩ : ∃ x, l[k]? = some x := ⟨_, List.getElem?_eq_getElem (by rw [HN.out]; exact hlt)⟩
      obtain ⟨b1, off, kA, kc, rfl, hb1, hkF, p0, p1, p2, p3, p4⟩ := HF.out.at hx
      have hbl := HR.out.2
      have hrb := hbl.size
      replace p0 := (hbl.cell (p := ⟨b1, off + k * 5, none⟩) hb1).trans p0
      replace p1 := (hbl.cell (p := ⟨b1, off + k * 5 + 1, none⟩) hb1).trans p1
      replace p2 := (hbl.cell (p := ⟨b1, off + k * 5 + 2, none⟩) hb1).trans p2
      replace p3 := (hbl.cell (p := ⟨b1, off + k * 5 + 3, none⟩) hb1).trans p3
      replace p4 := (hbl.cell (p := ⟨b1, off + k * 5 + 4, none⟩) hb1).trans p4
      have hgt := many_get hx
      have hwt := wl_get hx
      have hwe := wl1_eq x
      have hwk := wrL_len (l.take k)
      have hw1 := wr1_len x
      have hwkk := wrL_len x.kids
      have hKB := hkF.under hbl (fun _ h => h)
      have HCI : Hid (∀ w2, Below B wr w2 → Calls Tryz.prog 16 #[.slice kA x.kids.length kc] w2 fun e w' => e = .returned (.string ⟨(wrL x.kids).toArray⟩) ∧ Below B w2 w') := fun w2 hb2 => by
        exact HI.out (manyL x.kids) (by omega) x.kids (Nat.le_refl _) (by omega) (by omega) _ w2 B (hKB.under hb2 (fun _ h => h)) (by have := hb2.size; omega)
      have hnext : Hid (wrL (l.take (k + 1)) = acc ++ wr1 x) := Lib.hid (by rw [wrL_take hx, HR.out.1])
      have hacc2 : acc.length + (wr1 x).length ≤ 1000000 := by rw [HR.out.1]; omega
      have HE := Lib.hid (wr1_eq x)
      have hkl : (wrL x.kids).length ≤ 1000000 := by omega
      have htl : x.text.length + x.sub.length + x.see.length ≤ 1000000 := by omega
      have HBL := Lib.hid hbl
      clear hx hkF hbl hKB HR hwe hwk hw1 hwkk
      have hcase : x.kind = 0 ∨ x.kind = 1 ∨ x.kind = 2 ∨ x.kind = 3 ∨ x.kind = 4 ∨ x.kind = 5 ∨ x.kind = 6 ∨ 6 < x.kind := by omega
      rcases hcase with h | h | h | h | h | h | h | h
      · rw [h] at p0
        have HE2 : Hid (acc ++ wr1 x = acc ++ esc x.text) := Lib.hid (by rw [HE.out]; simp [h])
        have he2 := esc_len x.text
        obtain ⟨tx, htx⟩ : ∃ tx : ByteArray, ⟨x.text.toArray⟩ = tx := ⟨_, rfl⟩
        have htl2 : tx.data.toList = x.text := by rw [← htx]
        have htsz : tx.size = x.text.length := by rw [← htx, size_mk]
        rw [htx] at p1
        have HTX := Lib.hid htl2
        have hts : tx.size ≤ 1000000 := by omega
        have hel : Hid (∀ j, (acc ++ esc (x.text.take j)).length ≤ 4000000) := Lib.hid fun j => by
          have h1 := esc_len (x.text.take j)
          have h2 : (x.text.take j).length ≤ x.text.length := by simp; omega
          rw [List.length_append]; omega
        clear HE htx htl2
        obtain ⟨wO, hwO⟩ : ∃ x, x = wr := ⟨_, rfl⟩
        subst hwO
        go_wp2_with fail
        obtain ⟨W1, hW1⟩ : ∃ W1, wO.alloc (.cells #[.int .u8 0, .string tx, .string ⟨x.sub.toArray⟩, .string ⟨x.see.toArray⟩, .slice kA x.kids.length kc] 32) = W1 := ⟨_, rfl⟩
        have hN1 := Holds.new wO 32 #[.int .u8 0, .string tx, .string ⟨x.sub.toArray⟩, .string ⟨x.see.toArray⟩, .slice kA x.kids.length kc]
        (try rw [hW1])
        rw [hW1] at hN1
        have t1 := hN1.cell 1
        simp at t1
        have HBW : Hid (Below B wO W1) := Lib.hid (by rw [← hW1]; exact (Below.refl B wO).alloc (by omega) _)
        clear hN1 hW1
        go_loopg [3, 6] tx.size (fun q sv iv w2 => ∃ (j : Nat) (a2 : Bs), j + q = tx.size ∧ iv = .int .i64 (j : Int) ∧ sv = .string ⟨a2.toArray⟩ ∧ a2.length ≤ 4000000 ∧ w2 = W1 ∧ Hid (a2 = acc ++ esc (x.text.take j)))
        case atStart => exact ⟨0, acc, by omega, rfl, rfl, by omega, rfl, Lib.hid (by simp [esc])⟩
        case round =>
          obtain ⟨j, a2, hj, rfl, rfl, ha2, rfl, HA2⟩ := hrel
          by_cases hlt2 : j < tx.size
          · have hce : Hid (∀ w, Calls Tryz.prog 35 #[.string ⟨#[42, 95, 60, 40, 94, 93, 92, 96]⟩, .int .u8 (tx[j].toNat : Int)] w fun e w' => e = .returned (.bool (escB tx[j])) ∧ w = w') := Lib.hid fun w => ramong_any _ w
            have hex : tx.extract j (j + 1) = ⟨[tx[j]].toArray⟩ := by rw [one_list9 tx j hlt2]
            have hnx : Hid (esc (x.text.take (j + 1)) = esc (x.text.take j) ++ if escB tx[j] = true then [92, tx[j]] else [tx[j]]) := Lib.hid (by
              rw [← esc_snoc, ← HTX.out, List.take_add_one]
              congr 2
              rw [List.getElem?_eq_getElem (by simpa using hlt2)]
              rfl)
            have hln := hel.out (j + 1)
            rw [hnx.out] at hln
            rw [List.length_append, List.length_append] at hln
            rw [HA2.out, List.length_append] at ha2
            cases hes : escB tx[j] with
            | true =>
              have HES := Lib.hid hes
              rw [hes] at hce hln
              have ha3 : a2.length ≤ 4000000 := by rw [HA2.out, List.length_append]; exact ha2
              clear hes
              go_wp2_with (go_at_call 35; refine (hce.out _).mono ?_; rintro e w3 ⟨rfl, rfl⟩)
              (try rw [hex])
              go_roundg (gk - 1)
              case measure => omega
              case rel => exact ⟨j + 1, _, by omega, by go_num, congrArg Value.string ((by rw [ba_app, ba_app]) : ((⟨a2.toArray⟩ ++ ⟨[92].toArray⟩ ++ ⟨[tx[j]].toArray⟩ : ByteArray)) = ⟨(a2 ++ [92] ++ [tx[j]]).toArray⟩), by simp at hln ⊢; rw [HA2.out]; simp; omega, rfl, Lib.hid (by rw [hnx.out, HES.out, HA2.out]; simp)⟩
            | false =>
              have HES := Lib.hid hes
              rw [hes] at hce hln
              have ha3 : a2.length ≤ 4000000 := by rw [HA2.out, List.length_append]; exact ha2
              clear hes
              go_wp2_with (go_at_call 35; refine (hce.out _).mono ?_; rintro e w3 ⟨rfl, rfl⟩)
              (try rw [hex])
              go_roundg (gk - 1)
              case measure => omega
              case rel => exact ⟨j + 1, _, by omega, by go_num, congrArg Value.string ((by rw [ba_app]) : ((⟨a2.toArray⟩ ++ ⟨[tx[j]].toArray⟩ : ByteArray)) = ⟨(a2 ++ [tx[j]]).toArray⟩), by simp at hln ⊢; rw [HA2.out]; simp; omega, rfl, Lib.hid (by rw [hnx.out, HES.out, HA2.out]; simp)⟩
          · obtain rfl : j = tx.size := by omega
            have hfin : a2 = acc ++ wr1 x := by
              rw [HA2.out, HE2.out, List.take_of_length_le (by omega)]
            subst hfin
            go_wp2_with fail
            go_roundg (n - (k + 1))
            case measure => omega
            case rel => exact ⟨k + 1, _, by omega, by go_num, rfl, by simpa using hacc2, Lib.hid ⟨hnext.out.symm, HBL.out.trans HBW.out⟩⟩
      · rw [h] at p0
        have HE2 : Hid (acc ++ wr1 x = acc ++ [42] ++ wrL x.kids ++ [42]) := Lib.hid (by rw [HE.out]; simp [h])
        clear HE
        go_wp2_with (go_at_call 16; refine (HCI.out _ ((Below.refl B wr).alloc (by omega) _)).mono ?_; rintro e w3 ⟨rfl, hb3⟩; have HB3 := Lib.hid hb3; clear hb3)
        go_roundg (gk - 1)
        case measure => omega
        case rel => exact ⟨k + 1, _, by omega, by go_num, congrArg Value.string ((by rw [ba_app, ba_app, ba_app, ← HE2.out]) : ((⟨acc.toArray⟩ ++ ⟨[42].toArray⟩ ++ ⟨(wrL x.kids).toArray⟩ ++ ⟨[42].toArray⟩ : ByteArray)) = ⟨(acc ++ wr1 x).toArray⟩), by simpa using hacc2, Lib.hid ⟨hnext.out.symm, HBL.out.trans (((Below.refl B wr).alloc (by omega) _).trans HB3.out)⟩⟩
      · rw [h] at p0
        have HE2 : Hid (acc ++ wr1 x = acc ++ [95] ++ wrL x.kids ++ [95]) := Lib.hid (by rw [HE.out]; simp [h])
        clear HE
        go_wp2_with (go_at_call 16; refine (HCI.out _ ((Below.refl B wr).alloc (by omega) _)).mono ?_; rintro e w3 ⟨rfl, hb3⟩; have HB3 := Lib.hid hb3; clear hb3)
        go_roundg (gk - 1)
        case measure => omega
        case rel => exact ⟨k + 1, _, by omega, by go_num, congrArg Value.string ((by rw [ba_app, ba_app, ba_app, ← HE2.out]) : ((⟨acc.toArray⟩ ++ ⟨[95].toArray⟩ ++ ⟨(wrL x.kids).toArray⟩ ++ ⟨[95].toArray⟩ : ByteArray)) = ⟨(acc ++ wr1 x).toArray⟩), by simpa using hacc2, Lib.hid ⟨hnext.out.symm, HBL.out.trans (((Below.refl B wr).alloc (by omega) _).trans HB3.out)⟩⟩
      · rw [h] at p0
        have HE2 : Hid (acc ++ wr1 x = acc ++ [96] ++ x.text ++ [96]) := Lib.hid (by rw [HE.out]; simp [h])
        clear HE
        go_wp2_with fail
        go_roundg (gk - 1)
        case measure => omega
        case rel => exact ⟨k + 1, _, by omega, by go_num, congrArg Value.string ((by rw [ba_app, ba_app, ba_app, ← HE2.out]) : ((⟨acc.toArray⟩ ++ ⟨[96].toArray⟩ ++ ⟨x.text.toArray⟩ ++ ⟨[96].toArray⟩ : ByteArray)) = ⟨(acc ++ wr1 x).toArray⟩), by simpa using hacc2, Lib.hid ⟨hnext.out.symm, HBL.out.trans ((Below.refl B wr).alloc (by omega) _)⟩⟩
      · rw [h] at p0
        have HE2 : Hid (acc ++ wr1 x = acc ++ [60, 60] ++ x.text ++ [62, 62]) := Lib.hid (by rw [HE.out]; simp [h])
        clear HE
        go_wp2_with fail
        go_roundg (gk - 1)
        case measure => omega
        case rel => exact ⟨k + 1, _, by omega, by go_num, congrArg Value.string ((by rw [ba_app, ba_app, ba_app, ← HE2.out]) : ((⟨acc.toArray⟩ ++ ⟨[60, 60].toArray⟩ ++ ⟨x.text.toArray⟩ ++ ⟨[62, 62].toArray⟩ : ByteArray)) = ⟨(acc ++ wr1 x).toArray⟩), by simpa using hacc2, Lib.hid ⟨hnext.out.symm, HBL.out.trans ((Below.refl B wr).alloc (by omega) _)⟩⟩
      · rw [h] at p0
        have HE2 : Hid (acc ++ wr1 x = acc ++ [40, 40] ++ tx5 x.text x.sub x.see ++ [41, 41]) := Lib.hid (by rw [HE.out]; simp [h])
        have h5l := tx5_len x.text x.sub x.see
        have HC5 := Lib.hid (fun w => text5_any x.text x.sub x.see htl w)
        clear HE
        go_wp2_with (go_at_call 36; refine (HC5.out _).mono ?_; rintro e w3 ⟨⟨n5, rfl⟩, rfl⟩)
        go_roundg (gk - 1)
        case measure => omega
        case rel => exact ⟨k + 1, _, by omega, by go_num, congrArg Value.string ((by rw [ba_app, ba_app, ba_app, ← HE2.out]) : ((⟨acc.toArray⟩ ++ ⟨[40, 40].toArray⟩ ++ ⟨(tx5 x.text x.sub x.see).toArray⟩ ++ ⟨[41, 41].toArray⟩ : ByteArray)) = ⟨(acc ++ wr1 x).toArray⟩), by simpa using hacc2, Lib.hid ⟨hnext.out.symm, HBL.out.trans ((Below.refl B wr).alloc (by omega) _)⟩⟩
      · rw [h] at p0
        have HE2 : Hid (acc ++ wr1 x = acc ++ [94, 91] ++ wrL x.kids ++ [93]) := Lib.hid (by rw [HE.out]; simp [h])
        clear HE
        go_wp2_with (go_at_call 16; refine (HCI.out _ ((Below.refl B wr).alloc (by omega) _)).mono ?_; rintro e w3 ⟨rfl, hb3⟩; have HB3 := Lib.hid hb3; clear hb3)
        go_roundg (gk - 1)
        case measure => omega
        case rel => exact ⟨k + 1, _, by omega, by go_num, congrArg Value.string ((by rw [ba_app, ba_app, ba_app, ← HE2.out]) : ((⟨acc.toArray⟩ ++ ⟨[94, 91].toArray⟩ ++ ⟨(wrL x.kids).toArray⟩ ++ ⟨[93].toArray⟩ : ByteArray)) = ⟨(acc ++ wr1 x).toArray⟩), by simpa using hacc2, Lib.hid ⟨hnext.out.symm, HBL.out.trans (((Below.refl B wr).alloc (by omega) _).trans HB3.out)⟩⟩
      · have HE2 : Hid (acc ++ wr1 x = acc) := Lib.hid (by
          rw [HE.out, if_neg (by omega), if_neg (by omega), if_neg (by omega), if_neg (by omega), if_neg (by omega), if_neg (by omega), if_neg (by omega), List.append_nil])
        have hk0 : 6 < (x.kind : Int) := by omega
        clear HE
        go_wp2_with fail
        go_roundg (gk - 1)
        case measure => omega
        case rel => exact ⟨k + 1, acc, by omega, by go_num, rfl, hacc, Lib.hid ⟨(hnext.out.trans HE2.out).symm, HBL.out.trans ((Below.refl B wr).alloc (by omega) _)⟩⟩
    · obtain rfl : k = n := by omega
      have hr : acc = res := by
        rw [HR.out.1, ← HRES.out, List.take_of_length_le (by rw [HN.out]; exact Nat.le_refl _)]
      have HB9 := Lib.hid HR.out.2
      subst hr
      clear HR
      go_wp2_with fail
      go_ret
      exact ⟨rfl, HB9.out⟩
theorem wr_any (N : Nat) : WrOk N := by
  induction N using Nat.strongRecOn with
  | _ N ih => exact wr_step ih
end Go.Proofs.YtmdbhdhfdldegaaGreatDoor
namespace Go.Bd
def WrS (x : Sp) : Prop := ∃ b, put1 x = some b
theorem put_all : ∀ {l : List Sp}, (∀ x ∈ l, WrS x) → ∃ b, putL l = some b
  | [], _ => ⟨[], by simp only [putL]⟩
  | x :: l, h => by
    obtain ⟨a, ha⟩ := h x (List.mem_cons_self ..)
    obtain ⟨b, hb⟩ := put_all (l := l) (fun y hy => h y (List.mem_cons_of_mem _ hy))
    exact ⟨a ++ b, by simp only [putL, ha, hb, Option.bind_some, Option.map_some]⟩
theorem WrS.txt (s : Bs) : WrS (txt s) := ⟨esc s, by simp only [Go.Bd.txt, put1, if_true]⟩
theorem WrS.kids {k : Nat} {l : List Sp} (hk : k ≤ 6) (h5 : k ≠ 5) (h : ∀ x ∈ l, WrS x) : WrS ⟨k, [], [], [], l⟩ := by
  obtain ⟨b, hb⟩ := put_all h
  have hc : k = 0 ∨ k = 1 ∨ k = 2 ∨ k = 3 ∨ k = 4 ∨ k = 6 := by omega
  unfold WrS
  rcases hc with rfl | rfl | rfl | rfl | rfl | rfl <;> simp [put1, hb]
theorem WrS.code (l : Bs) : WrS ⟨3, l, [], [], []⟩ := by unfold WrS; simp [put1]
theorem WrS.ref (l : Bs) : WrS ⟨4, l, [], [], []⟩ := by unfold WrS; simp [put1]
theorem WrS.term {l a b c : Bs} (h : parseB l = some (a, b, c)) : WrS ⟨5, a, b, c, []⟩ := by
  unfold WrS
  simp [put1, (told_again h).1]
def WrR (r : Rw) : Prop := ∀ x ∈ r.sp, WrS x
theorem WrR.none : WrR Rw.none := fun x h => by simp [Rw.none] at h
theorem WrR.write {r : Rw} (h : WrR r) (s : Bs) : WrR (r.write s) := h
theorem WrR.flush {r : Rw} (h : WrR r) : ∀ x ∈ r.flush.sp, WrS x := fun x hx => by
  unfold Rw.flush at hx
  split at hx
  · exact h x hx
  · rcases List.mem_append.1 hx with h1 | h1
    · exact h x h1
    · rw [List.mem_singleton] at h1; subst h1; exact WrS.txt _
theorem WrR.add {r : Rw} (h : WrR r) {x : Sp} (hx : WrS x) : WrR (r.add x) := by
  unfold Rw.add
  split
  · exact h
  · intro y hy
    rcases List.mem_append.1 hy with h1 | h1
    · exact h.flush y h1
    · rw [List.mem_singleton] at h1; subst h1; exact hx
theorem WrR.adds : ∀ {l : List Sp} {r : Rw}, WrR r → (∀ x ∈ l, WrS x) → WrR (l.foldl Rw.add r)
  | [], _, h, _ => h
  | x :: l, _, h, hl => WrR.adds (l := l) (h.add (hl x (List.mem_cons_self ..))) (fun y hy => hl y (List.mem_cons_of_mem _ hy))
theorem WrR.spill {f : Fr} {r : Rw} (hf : WrR f.row) (h : WrR r) : WrR (spill f r) := (WrR.adds (h.write f.sign) hf).write _
def WrT (st : Pst) : Prop := ∀ f ∈ st.fs, WrR f.row ∧ f.kind ≤ 6 ∧ f.kind ≠ 5
theorem WrT.first : WrT Pst.first := fun f hf => by
  simp [Pst.first] at hf
  subst hf
  exact ⟨WrR.none, by show 0 ≤ 6; omega, by show 0 ≠ 5; omega⟩
theorem onTop_wr {g : Rw → Rw} (hg : ∀ r, WrR r → WrR (g r)) {l : List Fr} (h : ∀ f ∈ l, WrR f.row ∧ f.kind ≤ 6 ∧ f.kind ≠ 5) : ∀ f ∈ onTop g l, WrR f.row ∧ f.kind ≤ 6 ∧ f.kind ≠ 5 := fun f hf => by
  match l, h, hf with
  | [], _, hf => simp [onTop] at hf
  | a :: r, h, hf =>
    simp only [onTop] at hf
    rcases List.mem_cons.1 hf with rfl | h1
    · have := h a (List.mem_cons_self ..)
      exact ⟨hg _ this.1, this.2⟩
    · exact h f (List.mem_cons_of_mem _ h1)
theorem WrT.top {st : Pst} (h : WrT st) {g : Rw → Rw} (hg : ∀ r, WrR r → WrR (g r)) : WrT (st.top g) := onTop_wr hg h
theorem WrT.write {st : Pst} (h : WrT st) (s : Bs) : WrT (st.write s) := h.top fun _ hr => hr.write s
theorem WrT.tell {st : Pst} (h : WrT st) (a f : Nat) : WrT (st.tell a f) := h
theorem WrT.begin {st : Pst} (h : WrT st) {k : Nat} (hk : k ≤ 6) (h5 : k ≠ 5) (i : Nat) (s : Bs) : WrT (st.begin k i s) := fun f hf => by
  unfold Pst.begin at hf
  rcases List.mem_cons.1 hf with rfl | h1
  · exact ⟨WrR.none, hk, h5⟩
  · exact h f h1
theorem WrT.drop1 {st : Pst} (h : WrT st) : WrT st.drop1 := by
  unfold Pst.drop1
  split
  · rename_i f g r hq
    exact onTop_wr (fun r hr => WrR.spill (h f (by rw [hq]; simp)).1 hr) (fun x hx => h x (by rw [hq]; exact List.mem_cons_of_mem _ hx))
  · exact h
theorem WrT.dropN : ∀ (n : Nat) {st : Pst}, WrT st → WrT (st.dropN n)
  | 0, _, h => h
  | n + 1, _, h => WrT.dropN n h.drop1
theorem WrT.drop {st : Pst} (h : WrT st) (n : Nat) : WrT (st.drop n) := WrT.dropN _ h
theorem WrT.shut {st : Pst} (h : WrT st) : WrT st.shut := by
  unfold Pst.shut
  split
  · rename_i f r hq
    have hf := h f (by rw [hq]; exact List.mem_cons_self ..)
    exact onTop_wr (fun q hr => hr.add (WrS.kids hf.2.1 hf.2.2 hf.1.flush)) (fun x hx => h x (by rw [hq]; exact List.mem_cons_of_mem _ hx))
  · exact h
theorem WrT.fin {st : Pst} (h : WrT st) (n : Nat) : WrT (st.fin n) := (h.drop n).shut
theorem WrT.mark {st : Pst} (h : WrT st) (s : Bs) (i : Nat) {k : Nat} (hk : k ≤ 6) (h5 : k ≠ 5) : WrT (st.mark s i k) := by
  unfold Pst.mark
  split
  · exact h.fin _
  · split
    · exact h.write _
    · split
      · exact (h.write _).tell _ _
      · exact h.begin hk h5 _ _
theorem WrT.between {st : Pst} (h : WrT st) (s : Bs) (i : Nat) (a b : Bs) {af : Bs → Sp ⊕ Nat} (haf : ∀ l x, af l = .inl x → WrS x) : WrT (st.between s i a b af).1 := by
  unfold Pst.between
  split
  · exact (h.write _).tell _ _
  · split
    · exact (h.write _).tell _ _
    · exact h.top fun _ hr => hr.add (haf _ _ ‹_›)
theorem WrT.step {st : Pst} (h : WrT st) (s : Bs) (i : Nat) : WrT (st.step s i).1 := by
  unfold Pst.step
  split
  · exact h.write _
  split
  · exact h.between s i _ _ fun l x hx => by cases hx; exact WrS.code l
  split
  · exact h.between s i _ _ fun l x hx => by
      unfold refS at hx
      split at hx
      · cases hx; exact WrS.ref l
      · cases hx
  split
  · exact h.between s i _ _ fun l x hx => by
      unfold termS at hx
      split at hx
      · rename_i hp; cases hx; exact WrS.term hp
      · cases hx
  split
  · simp only
    split
    · exact h.begin (by omega) (by omega) _ _
    · exact (h.write _).tell _ _
  split
  · exact h.fin _
  split
  · exact h.mark _ _ (by omega) (by omega)
  split
  · exact h.mark _ _ (by omega) (by omega)
  · exact h.write _
theorem WrT.run (s : Bs) : ∀ (n i : Nat) {st : Pst}, WrT st → WrT (runP s n i st)
  | 0, _, _, h => h
  | n + 1, i, st, h => by
    unfold runP
    split
    · exact WrT.run s n _ (h.step s i)
    · exact h
theorem spans_wr (s : Bs) : ∀ x ∈ spansOf s, WrS x := by
  have h : WrT (endP s) := (WrT.run s _ 0 WrT.first).drop 0
  unfold spansOf
  split
  · rename_i f r hq
    exact (h f (by rw [hq]; exact List.mem_cons_self ..)).1.flush
  · intro x hx; cases hx
def refTextOf (l : List Sp) : Option Bs := if faultsAt (wrL l) = [] ∧ sameL (spansOf (wrL l)) l = true then some (wrL l) else none
theorem refTextOf_eq (l : List Sp) : refTextOf l = textOf l := by
  unfold refTextOf textOf
  cases hp : putL l with
  | some b => rw [putL_wr l b hp]
  | none =>
    simp only
    rw [if_neg]
    rintro ⟨_, h⟩
    obtain ⟨b, hb⟩ := put_all (spans_wr (wrL l))
    rw [(sameL_eq _ _).1 h, hp] at hb
    cases hb
end Go.Bd
namespace Go.Proofs.YtmdbhdhfdldegaaGreatDoor
open Go.RowKit Go.Bd Go.Shelf
abbrev BldF (B b : Nat) (l : Bs) (w : World) : Prop := Lib.IsBuilderF 37 5 B b (Lib.byteCells l) w
abbrev Kept (b : Nat) (w w' : World) : Prop := Lib.OthersKept 5 (some b) w w'
theorem bldK_write (B b : Nat) (l : Bs) (s : ByteArray) (w : World) (h : BldF B b l w) (hlen : l.length + s.size ≤ 140737488355328) (hBw : B ≤ w.heap.size) :
    Calls Tryz.prog 22 #[.pointer (some ⟨b, 0, none⟩), .string s] w fun e w' => e = .returned (.tuple #[.int .i64 s.size, .nilIface]) ∧ BldF B b (l ++ s.data.toList) w' ∧ Below B w w' ∧ Kept b w w' :=
  (Any.Builder_WriteString_k (ρ := bldRen) bldLays166 bldExtra B b _ s w h (by rw [Lib.byteCells_length]; exact hlen) hBw).mono fun _ _ ⟨h1, h2, h3, h4⟩ => ⟨h1, by unfold BldF; rw [Lib.byteCells, List.map_append]; exact .inr h2, h3, h4⟩
theorem bldK_byte (B b : Nat) (l : Bs) (c : UInt8) (w : World) (h : BldF B b l w) (hlen : l.length + 1 ≤ 140737488355328) (hBw : B ≤ w.heap.size) :
    Calls Tryz.prog 24 #[.pointer (some ⟨b, 0, none⟩), .int .u8 (c.toNat : Int)] w fun e w' => e = .returned .nilIface ∧ BldF B b (l ++ [c]) w' ∧ Below B w w' ∧ Kept b w w' :=
  (Any.Builder_WriteByte_k (ρ := bldRen) bldLays167 bldExtra B b _ (c.toNat : Int) w h (by rw [Lib.byteCells_length]; exact hlen) hBw).mono fun _ _ ⟨h1, h2, h3, h4⟩ => ⟨h1, by unfold BldF; rw [Lib.byteCells, List.map_append]; exact .inr h2, h3, h4⟩
theorem bldF_string (B b : Nat) (l : Bs) (w : World) (h : BldF B b l w) (hBw : B ≤ w.heap.size) :
    Calls Tryz.prog 13 #[.pointer (some ⟨b, 0, none⟩)] w fun e w' => e = .returned (.string ⟨l.toArray⟩) ∧ Below B w w' :=
  (Tryz.Builder_String_any_f B b l w h hBw).mono fun _ _ ⟨h1, _, h3⟩ => ⟨h1, h3⟩
theorem BldF.fresh (w : World) : BldF w.heap.size w.heap.size [] (w.alloc (.cells #[.pointer none, .slice none 0 0] 37)) := Lib.IsBuilderF.of (Lib.fresh_isBuilder _ _ _)
theorem ownsF_later {B n sz : Nat} {e : TypeId} {v : Value} {xs : List Value} {w w' : World} (h : w.ownsRowF B e sz v n xs) (hb : Below w.heap.size w w') : w'.ownsRowF B e sz v n xs := by
  refine ⟨h.1, ?_⟩
  rcases h.2 with h1 | h1
  · exact .inl h1
  · refine .inr ?_
    obtain ⟨g, cap, cur, r⟩ := h1
    have hlt : g < w.heap.size := by
      obtain ⟨_, _, r⟩ := r
      first
        | (obtain ⟨z, hh, _⟩ := r; exact (Array.getElem?_eq_some_iff.1 hh).1)
        | (obtain ⟨hh, _⟩ := r; exact (Array.getElem?_eq_some_iff.1 hh).1)
    refine ⟨g, cap, cur, ?_⟩
    rw [hb.block g hlt]
    exact r
theorem BldF.later {B b : Nat} {l : Bs} {w w' : World} (h : BldF B b l w) (hb : Below w.heap.size w w') : BldF B b l w' := by
  have st : ∀ p, Lib.BuilderAtF 37 5 B b p (Lib.byteCells l) w → Lib.BuilderAtF 37 5 B b p (Lib.byteCells l) w' := fun p h => by
    obtain ⟨h1, v, h2, h3, h4⟩ := h
    exact ⟨h1, v, (hb.block b (Array.getElem?_eq_some_iff.1 h2).1).trans h2, ownsF_later h3 hb, h4⟩
  rcases h with h | h
  · exact .inl (st _ h)
  · exact .inr (st _ h)
theorem BldF.lt {B b : Nat} {l : Bs} {w : World} (h : BldF B b l w) : B ≤ b ∧ b < w.heap.size := by
  rcases h with ⟨h1, v, h2, _⟩ | ⟨h1, v, h2, _⟩ <;> exact ⟨h1, (Array.getElem?_eq_some_iff.1 h2).1⟩
theorem Kept.holds {b g : Nat} {t : TypeId} {cs : Array Value} {w w' : World} (h : Kept b w w') (hh : Holds w g t cs) (hg : g ≠ b) (ht : t ≠ 5) : Holds w' g t cs :=
  h g _ hh (fun e => hg (by injection e)) (fun c fz e => by injection e with _ e2 _; exact ht e2)
theorem Kept.later {b : Nat} {w w' w'' : World} (h : Kept b w w') (hb : Below w'.heap.size w' w'') : Kept b w w'' := fun k o h1 h2 h3 => by
  have h4 := h k o h1 h2 h3
  exact (hb.block k (Array.getElem?_eq_some_iff.1 h4).1).trans h4
theorem Kept.refl (b : Nat) (w : World) : Kept b w w := Lib.OthersKept.refl _ _ _
end Go.Proofs.YtmdbhdhfdldegaaGreatDoor
namespace Go.Proofs.YtmdbhdhfdldegaaGreatDoor
open Go.RowKit Go.Bd
theorem catList (a t b : Bs) : ((⟨a.toArray⟩ : ByteArray) ++ ⟨t.toArray⟩ ++ ⟨b.toArray⟩).data.toList = a ++ t ++ b := by
  simp only [ByteArray.data_append, Array.toList_append]
theorem catSize (a t b : Bs) : ((⟨a.toArray⟩ : ByteArray) ++ ⟨t.toArray⟩ ++ ⟨b.toArray⟩).size = a.length + t.length + b.length := by
  rw [ByteArray.size_append, ByteArray.size_append]; rfl
theorem bldK_three (B b : Nat) (pre a t z : Bs) (w : World) (h : BldF B b pre w) (hlen : pre.length + (a.length + t.length + z.length) ≤ 2000000000000) (hBw : B ≤ w.heap.size) :
    Calls Tryz.prog 22 #[.pointer (some ⟨b, 0, none⟩), .string ((⟨a.toArray⟩ : ByteArray) ++ ⟨t.toArray⟩ ++ ⟨z.toArray⟩)] w fun e w' => (∃ v, e = .returned v) ∧ BldF B b (pre ++ (a ++ t ++ z)) w' ∧ Below B w w' ∧ Kept b w w' := by
  refine (bldK_write B b pre _ w h (by rw [catSize]; omega) hBw).mono ?_
  rintro e w' ⟨he, h1, h2, h3⟩
  rw [catList] at h1
  exact ⟨⟨_, he⟩, h1, h2, h3⟩
def PutOk (N : Nat) : Prop := ∀ (l : List Sp), manyL l ≤ N → manyL l ≤ 1000000000 → wlL l ≤ 1000000000 → ∀ (v : Value) (w : World) (B b : Nat) (acc : Bs) (m : Int), Forest w (· < B) v l → BldF B b acc w → acc.length + wlL l ≤ 1000000000000 → w.cell? ⟨0, 0, none⟩ = some (.int .i64 m) → 0 < B →
    Calls Tryz.prog 12 #[.pointer (some ⟨b, 0, none⟩), v] w fun e w' => e = .returned (.bool (putF l).2) ∧ BldF B b (acc ++ (putF l).1) w' ∧ Below B w w' ∧ Kept b w w'
set_option maxRecDepth 100000 in
set_option maxHeartbeats 2000000 in
theorem within_any {N : Nat} (ih : PutOk N) (l : List Sp) (hN : manyL l ≤ N) (hm : manyL l ≤ 1000000000) (hw : wlL l ≤ 1000000000) (first last : ByteArray) (h1 : first.size ≤ 2) (h2 : last.size ≤ 2) (v : Value) (w : World) (B b bx : Nat) (acc : Bs) (m : Int) (hF : Forest w (· < B) v l) (hI : BldF B b acc w)
    (hL : acc.length + wlL l ≤ 999999999994) (hc : w.cell? ⟨0, 0, none⟩ = some (.int .i64 m)) (hB : 0 < B) (hX : Holds w bx 34 #[.pointer (some ⟨b, 0, none⟩)]) (hbx : bx ≠ b) :
    Calls Tryz.prog 21 #[.string first, .string last, v, .pointer (some ⟨bx, 0, none⟩)] w fun e w' => e = .returned (.bool (putF l).2) ∧ BldF B b (acc ++ (first.data.toList ++ ((putF l).1 ++ last.data.toList))) w' ∧ Below B w w' ∧ Kept b w w' := by
  have hlb := hI.lt
  have l1 : first.data.toList.length = first.size := by simp
  have l2 : last.data.toList.length = last.size := by simp
  have hpl := putF_len l
  obtain ⟨A, c, rfl, hcc⟩ := hF.len
  have HF := Lib.hid hF
  have HI := Lib.hid hI
  have HC := Lib.hid hc
  have HX := Lib.hid hX
  have c0 := hX.cell 0
  have HL1 := Lib.hid l1
  have HL2 := Lib.hid l2
  have HPO : Hid (PutOk N) := ih
  obtain ⟨ok, hok⟩ : ∃ ok, (putF l).2 = ok := ⟨_, rfl⟩
  obtain ⟨out, hout⟩ : ∃ out, (putF l).1 = out := ⟨_, rfl⟩
  rw [hok, hout]
  rw [hout] at hpl
  have HOK := Lib.hid hok
  have HOUT := Lib.hid hout
  clear hF hI hc hX ih l1 l2 hok hout
  go_enter Tryz.func21, Tryz.ntmps21
  go_wp2_with fail
  refine (bldK_write B b acc first w HI.out (by omega) (by omega)).mono ?_
  rintro e w1 ⟨rfl, hI1, hb1, hk1⟩
  have hX1 := hk1.holds HX.out hbx (by decide)
  have d0 := hX1.cell 0
  have HX1 := Lib.hid hX1
  have hs1 := hb1.size
  have cp := HPO.out l hN hm hw _ w1 B b _ m (HF.out.under hb1 (fun _ h => h)) hI1 (by rw [List.length_append, HL1.out]; omega) ((hb1.cell (p := ⟨0, 0, none⟩) hB).trans HC.out) hB
  have HB1 := Lib.hid hb1
  have HK1 := Lib.hid hk1
  clear hI1 hb1 hk1 hX1
  rw [HOK.out, HOUT.out] at cp
  go_wp2_with fail
  refine cp.mono ?_
  clear cp
  rintro e w2 ⟨rfl, hI2, hb2, hk2⟩
  have hX2 := hk2.holds HX1.out hbx (by decide)
  have e0 := hX2.cell 0
  have hs2 := hb2.size
  have cw := bldK_write B b _ last w2 hI2 (by rw [List.length_append, List.length_append, HL1.out]; omega) (by omega)
  have HB2 := Lib.hid (HB1.out.trans hb2)
  have HK2 := Lib.hid (HK1.out.trans hk2)
  clear hI2 hb2 hk2 hX2
  go_wp2_with fail
  refine cw.mono ?_
  clear cw
  rintro e w3 ⟨rfl, hI3, hb3, hk3⟩
  have HI3 := Lib.hid hI3
  have HB3 := Lib.hid (HB2.out.trans hb3)
  have HK3 := Lib.hid (HK2.out.trans hk3)
  clear hI3 hb3 hk3
  go_wp2
  go_ret
  refine ⟨rfl, ?_, HB3.out, HK3.out⟩
  have h := HI3.out
  simp only [List.append_assoc] at h
  exact h
theorem putText_any (x : Sp) (w : World) (m : Int) (hm : w.cell? ⟨0, 0, none⟩ = some (.int .i64 m)) (hw : wl1 x ≤ 1000000000) :
    Calls Tryz.prog 25 #[.string ⟨x.text.toArray⟩, .string ⟨x.sub.toArray⟩, .string ⟨x.see.toArray⟩] w fun e w' => ∃ (t : Bs) (er : Int) (ok : Bool), e = .returned (.tuple #[.string ⟨t.toArray⟩, .int .i64 er]) ∧ Below w.heap.size w w' ∧ (er == 0) = ok ∧ t.length ≤ wl1 x ∧
      ([40, 40] ++ (if parseB (textL x.text x.sub x.see) = some (x.text, x.sub, x.see) then textL x.text x.sub x.see else []) ++ [41, 41], decide (parseB (textL x.text x.sub x.see) = some (x.text, x.sub, x.see))) = (40 :: 40 :: (t ++ [41, 41]), ok) := by
  have hq := wl1_eq x
  have hl := textL_len x.text x.sub x.see
  refine (Text_any ⟨x.text.toArray⟩ ⟨x.sub.toArray⟩ ⟨x.see.toArray⟩ w m hm (by rw [size_mk]; omega) (by rw [size_mk]; omega) (by rw [size_mk]; omega)).mono ?_
  rintro e w' ⟨rfl, hb⟩
  unfold textV
  simp only [List.toList_toArray]
  split
  · rename_i h; exact ⟨_, 0, true, rfl, hb, rfl, by omega, by simp [h]⟩
  · rename_i h; exact ⟨[], 1, false, rfl, hb, rfl, by simp, by simp [h]⟩
theorem holdsUnder {w w' : World} {g : Nat} {t : TypeId} {cs : Array Value} (h : Holds w g t cs) (hb : Below w.heap.size w w') : Holds w' g t cs := (hb.block g h.lt).trans h
set_option maxRecDepth 100000 in
set_option maxHeartbeats 4000000 in
theorem put_step {N : Nat} (ih : ∀ M, M < N → PutOk M) : PutOk N := by
  intro l hN hm hw v w B b acc m hF hI hL hc hB
  obtain ⟨A, c, rfl, hcc⟩ := hF.len
  have hlm := many_len l
  obtain ⟨hbB, hbw⟩ := hI.lt
  obtain ⟨w0, hw0⟩ : ∃ w0, w.alloc (.cells #[.pointer (some ⟨b, 0, none⟩)] 34) = w0 := ⟨_, rfl⟩
  have hal : Below w.heap.size w w0 := by rw [← hw0]; exact (Below.refl _ _).alloc (Nat.le_refl _) _
  have hX : Holds w0 w.heap.size 34 #[.pointer (some ⟨b, 0, none⟩)] := by rw [← hw0]; exact Holds.new w _ _
  have hz0 : w0.heap.size = w.heap.size + 1 := by rw [← hw0]; simp
  have hB0 : Below B w w0 := hal.mono (by omega)
  have HF := Lib.hid (hF.under hB0 (fun _ h => h))
  have HI := Lib.hid (hI.later hal)
  have HC := Lib.hid ((hB0.cell (p := ⟨0, 0, none⟩) hB).trans hc)
  have HX := Lib.hid hX
  have HB0 := Lib.hid hB0
  have HK0 : Hid (Kept b w w0) := (Kept.refl b w).later hal
  have HIH := Lib.hid ih
  clear hF hI hc hX hal hB0 ih
  obtain ⟨n, hn⟩ : ∃ n, l.length = n := ⟨_, rfl⟩
  have HN := Lib.hid hn
  simp only [hn] at hcc hlm HF ⊢
  clear hn
  have HZ0 := Lib.hid hz0
  have HW0 := Lib.hid hw0
  have hz1 : w.heap.size < w0.heap.size := by omega
  clear hz0
  go_enter Tryz.func12, Tryz.ntmps12
  go_wp2
  clear hw0
  go_loopg [15] n (fun q i wr => ∃ k : Nat, k + q = n ∧ i = .int .i64 (k : Int) ∧ Hid ((putF (l.take k)).2 = true) ∧ Hid (BldF B b (acc ++ (putF (l.take k)).1) wr ∧ Below B w0 wr ∧ Kept b w0 wr))
  case atStart => exact ⟨0, by omega, rfl, rfl, by simpa [putF] using HI.out, Below.refl _ _, Kept.refl _ _⟩
  case round =>
    obtain ⟨k, hk, rfl, HT, HR⟩ := hrel
    by_cases hlt : k < n
    · obtain ⟨x, hx⟩ : ∃ x, l[k]? = some x := ⟨_, List.getElem?_eq_getElem (by rw [HN.out]; exact hlt)⟩
      obtain ⟨b1, off, kA, kc, rfl, hb1, hkF, p0, p1, p2, p3, p4⟩ := HF.out.at hx
      have hbl := HR.out.2.1
      have hrb := hbl.size
      replace p0 := (hbl.cell (p := ⟨b1, off + k * 5, none⟩) hb1).trans p0
      replace p1 := (hbl.cell (p := ⟨b1, off + k * 5 + 1, none⟩) hb1).trans p1
      replace p2 := (hbl.cell (p := ⟨b1, off + k * 5 + 2, none⟩) hb1).trans p2
      replace p3 := (hbl.cell (p := ⟨b1, off + k * 5 + 3, none⟩) hb1).trans p3
      replace p4 := (hbl.cell (p := ⟨b1, off + k * 5 + 4, none⟩) hb1).trans p4
      have hgt := many_get hx
      have hwg := wl_get hx
      have hw1 := wl1_eq x
      have hpl := putF_len (l.take k)
      have HTK := Lib.hid (putF_take hx HT.out)
      have HFL := Lib.hid (fun h => putF_fail hx HT.out h)
      have HKF := Lib.hid (hkF.under hbl (fun _ h => h))
      have HP1 := Lib.hid (putF1_eq x)
      have HCR := Lib.hid ((hbl.cell (p := ⟨0, 0, none⟩) hB).trans HC.out)
      clear hx hkF hbl
      have hlw : (acc ++ (putF (l.take k)).1).length ≤ 1000000000000 - wl1 x := by rw [List.length_append]; omega
      have HT2 : Hid ((putF (l.take (k + 1))).2 = (putF1 x).2) := by unfold Hid; rw [HTK.out]
      have HT3 : Hid (acc ++ (putF (l.take (k + 1))).1 = acc ++ (putF (l.take k)).1 ++ (putF1 x).1) := by unfold Hid; rw [HTK.out, List.append_assoc]
      have HF3 : Hid ((putF1 x).2 = false → (putF l).2 = false ∧ acc ++ (putF l).1 = acc ++ (putF (l.take k)).1 ++ (putF1 x).1) := fun h => by rw [HFL.out h]; exact ⟨rfl, by rw [List.append_assoc]⟩
      clear HTK HFL
      obtain ⟨pre, hpre⟩ : ∃ pre, acc ++ (putF (l.take k)).1 = pre := ⟨_, rfl⟩
      rw [hpre] at HR hlw HT3 HF3
      clear hpre
      have hwx : wl1 x ≤ 1000000000 := by omega
      obtain ⟨h8, h9, h10⟩ := HR.out
      have HI1 := Lib.hid h8
      have HB1 := Lib.hid (HB0.out.trans h9)
      have HK1 := Lib.hid (HK0.out.trans h10)
      have HXR := Lib.hid (h10.holds HX.out (by omega) (by decide))
      have HBR := Lib.hid h9
      have HKR := Lib.hid h10
      clear h8 h9 h10 HR
      rcases (show x.kind = 0 ∨ x.kind = 1 ∨ x.kind = 2 ∨ x.kind = 3 ∨ x.kind = 4 ∨ x.kind = 5 ∨ x.kind = 6 ∨ (x.kind ≠ 0 ∧ x.kind ≠ 1 ∧ x.kind ≠ 2 ∧ x.kind ≠ 3 ∧ x.kind ≠ 4 ∧ x.kind ≠ 5 ∧ x.kind ≠ 6) by omega) with h0 | h0 | h0 | h0 | h0 | h0 | h0 | h0
      · replace p0 : wr.cell? ⟨b1, off + k * 5, none⟩ = some (.int .u8 0) := by rw [p0, h0]; rfl
        have e1 : putF1 x = (esc x.text, true) := by rw [HP1.out, h0]; rfl
        have E1 := Lib.hid e1
        clear e1 h0 HP1
        have hsb := (Below.refl wr.heap.size wr).alloc (Nat.le_refl _) (.cells #[.int .u8 0, .string ⟨x.text.toArray⟩, .string ⟨x.sub.toArray⟩, .string ⟨x.see.toArray⟩, .slice kA x.kids.length kc] 32)
        have hX1 := holdsUnder HXR.out hsb
        have x0 := hX1.cell 0
        have HX1 := Lib.hid hX1
        have hI1 := HI1.out.later hsb
        have HSB := Lib.hid hsb
        clear hX1 hsb
        obtain ⟨T, hT⟩ : ∃ T : ByteArray, T = ⟨x.text.toArray⟩ := ⟨_, rfl⟩
        rw [← hT] at p1
        have hTl : T.data.toList = x.text := by rw [hT]
        have hTz : T.size = x.text.length := by rw [hT]; rfl
        have HSB2 := HSB.out
        rw [← hT] at HSB2
        have HS1 : Hid (Holds (wr.alloc (.cells #[.int .u8 0, .string T, .string ⟨x.sub.toArray⟩, .string ⟨x.see.toArray⟩, .slice kA x.kids.length kc] 32)) wr.heap.size 32 #[.int .u8 0, .string T, .string ⟨x.sub.toArray⟩, .string ⟨x.see.toArray⟩, .slice kA x.kids.length kc]) := Holds.new wr _ _
        rw [← hT] at hI1 x0 HX1
        have HIS := Lib.hid hI1
        have HTL := Lib.hid hTl
        have HTZ := Lib.hid hTz
        have hTb : T.size ≤ 1000000000 := by omega
        have hlw2 : pre.length + 2 * T.size ≤ 1000000000000 := by omega
        have HSBT := Lib.hid HSB2
        clear hT hTl hTz HSB HSB2 hI1
        obtain ⟨gO, hgO⟩ : ∃ g, g = gk := ⟨_, rfl⟩
        subst hgO
        obtain ⟨wr0, hwO⟩ : ∃ x, x = wr := ⟨_, rfl⟩
        subst hwO
        go_wp2
        go_loopg [26] T.size (fun q i wz => ∃ j : Nat, j + q = T.size ∧ i = .int .i64 (j : Int) ∧ Hid (BldF B b (pre ++ esc (x.text.take j)) wz ∧ Below B (wr0.alloc (.cells #[.int .u8 0, .string T, .string ⟨x.sub.toArray⟩, .string ⟨x.see.toArray⟩, .slice kA x.kids.length kc] 32)) wz ∧ Kept b (wr0.alloc (.cells #[.int .u8 0, .string T, .string ⟨x.sub.toArray⟩, .string ⟨x.see.toArray⟩, .slice kA x.kids.length kc] 32)) wz))
        case atStart => exact ⟨0, by omega, rfl, by simpa [esc] using HIS.out, Below.refl _ _, Kept.refl _ _⟩
        case round =>
          obtain ⟨j, hj, rfl, HR2⟩ := hrel
          have hzs := HR2.out.2.1.size
          simp only [World.size_alloc] at hzs
          by_cases hjt : j < T.size
          · have hX2 := HR2.out.2.2.holds HX1.out (by omega) (by decide)
            have hS2 := HR2.out.2.2.holds HS1.out (by omega) (by decide)
            have y0 := hX2.cell 0
            have y1 := hS2.cell 1
            have HX2 := Lib.hid hX2
            have HS2 := Lib.hid hS2
            have hel := esc_len (x.text.take j)
            have htl : (x.text.take j).length ≤ j := List.length_take_le _ _
            have HEJ0 : Hid (x.text.take (j + 1) = x.text.take j ++ [T[j]]) := by
              unfold Hid
              rw [← HTL.out, List.take_add_one, List.getElem?_eq_getElem (by simpa using hjt)]; rfl
            have ce : ∀ w, Calls Tryz.prog 23 #[.int .u8 (T[j].toNat : Int)] w fun e w' => e = .returned (.bool (escB T[j])) ∧ w = w' := fun w => escaped_any T[j] w
            clear hX2 hS2
            cases he : escB T[j] with
            | true =>
              rw [he] at ce
              have HEJ : Hid (esc (x.text.take (j + 1)) = esc (x.text.take j) ++ ([92] ++ [T[j]])) := by
                unfold Hid
                rw [HEJ0.out, esc_snoc, if_pos he]; rfl
              clear he
              go_wp2_with (go_at_call 23; refine (ce _).mono ?_; rintro e w' ⟨rfl, rfl⟩)
              refine (bldK_byte B b _ 92 wr HR2.out.1 (by rw [List.length_append]; omega) (by omega)).mono ?_
              rintro e w3 ⟨rfl, hI3, hb3, hk3⟩
              have hX3 := hk3.holds HX2.out (by omega) (by decide)
              have hS3 := hk3.holds HS2.out (by omega) (by decide)
              have q0 := hX3.cell 0
              have q1 := hS3.cell 1
              have HX3 := Lib.hid hX3
              have HS3 := Lib.hid hS3
              have HI3 := Lib.hid hI3
              have HI3D : Hid (∀ k, BldF B b (pre ++ esc (x.text.take j) ++ [92]) (w3.drewN k)) := fun k => hI3
              have hb3s := hb3.size
              have HB3 := Lib.hid (HR2.out.2.1.trans hb3)
              have HK3 := Lib.hid (HR2.out.2.2.trans hk3)
              clear hI3 hb3 hk3 hX3 hS3 y0 y1 ce
              go_wp2_with fail
              refine wp_region_held_drew (S := (fun w' => w'.cell? ⟨w.heap.size, 0, none⟩ = some (.pointer (some ⟨b, 0, none⟩)) ∧ w'.cell? ⟨wr0.heap.size, 1, none⟩ = some (.string T))) (by kernel_rfl) ?_ (fun hHeld0 => ?_)
              · (try dsimp only)
                first | exact ⟨q0, q1⟩ | exact ⟨z0, z1⟩
              refine wpAnyH_take (i := 0) (v := ?_) rfl (by kernel_rfl) (by kernel_rfl) (by kernel_rfl) (fun _ _ _ h => h) (Or.inl ⟨by kernel_rfl, ?_⟩) (by assumption) ?_
              rotate_left
              · (intro w hSw; (try dsimp only at hSw); go_simp; (first | done | with_reducible rfl))
              (try simp only [Act.put, List.setIfInBounds_toArray, List.set_cons_zero, List.set_cons_succ])
              refine wpAnyH_take (i := 1) (v := ?_) rfl (by kernel_rfl) (by kernel_rfl) (by kernel_rfl) (fun _ _ _ h => h) (Or.inl ⟨by kernel_rfl, ?_⟩) (by assumption) ?_
              rotate_left
              · (intro w hSw; (try dsimp only at hSw); go_simp; (first | done | with_reducible rfl))
              (try simp only [Act.put, List.setIfInBounds_toArray, List.set_cons_zero, List.set_cons_succ])
              refine wpAnyH_take (i := 2) (v := ?_) rfl (by kernel_rfl) (by kernel_rfl) (by kernel_rfl) (fun _ _ _ h => h) (Or.inl ⟨by kernel_rfl, ?_⟩) (by assumption) ?_
              rotate_left
              · (intro w hSw; (try dsimp only at hSw); go_simp; (first | done | with_reducible rfl))
              (try simp only [Act.put, List.setIfInBounds_toArray, List.set_cons_zero, List.set_cons_succ])
              refine wpAnyH_take (i := 3) (v := ?_) rfl (by kernel_rfl) (by kernel_rfl) (by kernel_rfl) (fun _ _ _ h => h) (Or.inl ⟨by kernel_rfl, ?_⟩) (by assumption) ?_
              rotate_left
              · (intro w hSw; (try dsimp only at hSw); go_simp; (first | done | with_reducible rfl))
              (try simp only [Act.put, List.setIfInBounds_toArray, List.set_cons_zero, List.set_cons_succ])
              refine wpAnyH_take (i := 4) (v := ?_) rfl (by kernel_rfl) (by kernel_rfl) (by kernel_rfl) (fun _ _ _ h => h) (Or.inl ⟨by kernel_rfl, ?_⟩) (by assumption) ?_
              rotate_left
              · (intro w hSw; (try dsimp only at hSw); go_simp; (first | done | with_reducible rfl))
              (try simp only [Act.put, List.setIfInBounds_toArray, List.set_cons_zero, List.set_cons_succ])
              refine wpAnyH_ready (rs := [5]) (by kernel_rfl) (by simp) ?_
              refine AllReadyH.cons rfl (fun K hK => ?_) AllReadyH.nil
              go_simp
              refine (bldK_byte B b _ T[j] _ (HI3D.out _) (by rw [List.length_append]; (try simp only [List.length_append, List.length_cons, List.length_nil]); omega) (by first | omega | (simp; omega))).mono ?_
              rintro e w4 ⟨rfl, hI4, hb4, hk4⟩
              have z0 := (hk4.holds HX3.out (by omega) (by decide)).cell 0
              have z1 := (hk4.holds HS3.out (by omega) (by decide)).cell 1
              have HI4 := Lib.hid hI4
              have HB4 := Lib.hid (HB3.out.drew.trans hb4)
              have HK4 := Lib.hid (Lib.OthersKept.trans (Lib.OthersKept.drew HK3.out) hk4)
              clear hI4 hb4 hk4
              go_wp2_with fail
              refine hK.out _ _ ?_ (fun hHeld1 => ?_)
              · (try dsimp only)
                first | exact ⟨q0, q1⟩ | exact ⟨z0, z1⟩
              clear hK K hHeld0
              (try simp only [Act.put, List.setIfInBounds_toArray, List.set_cons_zero, List.set_cons_succ])
              refine wpAnyH_done (by kernel_rfl) ?_ _
              go_wp2
              go_roundg (gk - 1)
              case measure => omega
              case rel => exact ⟨j + 1, by omega, by go_num, by rw [HEJ.out]; have h := HI4.out; simp only [List.append_assoc] at h ⊢; exact h, HB4.out, HK4.out⟩
            | false =>
              rw [he] at ce
              have HEJ : Hid (esc (x.text.take (j + 1)) = esc (x.text.take j) ++ [T[j]]) := by
                unfold Hid
                rw [HEJ0.out, esc_snoc, if_neg (by rw [he]; decide)]
              have HX3 := HX2
              have HS3 := HS2
              have HI3 := Lib.hid HR2.out.1
              have HI3D : Hid (∀ k, BldF B b (pre ++ esc (x.text.take j)) (wr.drewN k)) := fun k => HR2.out.1
              have HB3 := Lib.hid HR2.out.2.1
              have HK3 := Lib.hid HR2.out.2.2
              clear he
              go_wp2_with (go_at_call 23; refine (ce _).mono ?_; rintro e w' ⟨rfl, rfl⟩)
              refine wp_region_held_drew (S := (fun w' => w'.cell? ⟨w.heap.size, 0, none⟩ = some (.pointer (some ⟨b, 0, none⟩)) ∧ w'.cell? ⟨wr0.heap.size, 1, none⟩ = some (.string T))) (by kernel_rfl) ?_ (fun hHeld0 => ?_)
              · (try dsimp only)
                first | exact ⟨y0, y1⟩ | exact ⟨z0, z1⟩
              refine wpAnyH_take (i := 0) (v := ?_) rfl (by kernel_rfl) (by kernel_rfl) (by kernel_rfl) (fun _ _ _ h => h) (Or.inl ⟨by kernel_rfl, ?_⟩) (by assumption) ?_
              rotate_left
              · (intro w hSw; (try dsimp only at hSw); go_simp; (first | done | with_reducible rfl))
              (try simp only [Act.put, List.setIfInBounds_toArray, List.set_cons_zero, List.set_cons_succ])
              refine wpAnyH_take (i := 1) (v := ?_) rfl (by kernel_rfl) (by kernel_rfl) (by kernel_rfl) (fun _ _ _ h => h) (Or.inl ⟨by kernel_rfl, ?_⟩) (by assumption) ?_
              rotate_left
              · (intro w hSw; (try dsimp only at hSw); go_simp; (first | done | with_reducible rfl))
              (try simp only [Act.put, List.setIfInBounds_toArray, List.set_cons_zero, List.set_cons_succ])
              refine wpAnyH_take (i := 2) (v := ?_) rfl (by kernel_rfl) (by kernel_rfl) (by kernel_rfl) (fun _ _ _ h => h) (Or.inl ⟨by kernel_rfl, ?_⟩) (by assumption) ?_
              rotate_left
              · (intro w hSw; (try dsimp only at hSw); go_simp; (first | done | with_reducible rfl))
              (try simp only [Act.put, List.setIfInBounds_toArray, List.set_cons_zero, List.set_cons_succ])
              refine wpAnyH_take (i := 3) (v := ?_) rfl (by kernel_rfl) (by kernel_rfl) (by kernel_rfl) (fun _ _ _ h => h) (Or.inl ⟨by kernel_rfl, ?_⟩) (by assumption) ?_
              rotate_left
              · (intro w hSw; (try dsimp only at hSw); go_simp; (first | done | with_reducible rfl))
              (try simp only [Act.put, List.setIfInBounds_toArray, List.set_cons_zero, List.set_cons_succ])
              refine wpAnyH_take (i := 4) (v := ?_) rfl (by kernel_rfl) (by kernel_rfl) (by kernel_rfl) (fun _ _ _ h => h) (Or.inl ⟨by kernel_rfl, ?_⟩) (by assumption) ?_
              rotate_left
              · (intro w hSw; (try dsimp only at hSw); go_simp; (first | done | with_reducible rfl))
              (try simp only [Act.put, List.setIfInBounds_toArray, List.set_cons_zero, List.set_cons_succ])
              refine wpAnyH_ready (rs := [5]) (by kernel_rfl) (by simp) ?_
              refine AllReadyH.cons rfl (fun K hK => ?_) AllReadyH.nil
              go_simp
              refine (bldK_byte B b _ T[j] _ (HI3D.out _) (by rw [List.length_append]; (try simp only [List.length_append, List.length_cons, List.length_nil]); omega) (by first | omega | (simp; omega))).mono ?_
              rintro e w4 ⟨rfl, hI4, hb4, hk4⟩
              have z0 := (hk4.holds HX3.out (by omega) (by decide)).cell 0
              have z1 := (hk4.holds HS3.out (by omega) (by decide)).cell 1
              have HI4 := Lib.hid hI4
              have HB4 := Lib.hid (HB3.out.drew.trans hb4)
              have HK4 := Lib.hid (Lib.OthersKept.trans (Lib.OthersKept.drew HK3.out) hk4)
              clear hI4 hb4 hk4
              go_wp2_with fail
              refine hK.out _ _ ?_ (fun hHeld1 => ?_)
              · (try dsimp only)
                first | exact ⟨y0, y1⟩ | exact ⟨z0, z1⟩
              clear hK K hHeld0
              (try simp only [Act.put, List.setIfInBounds_toArray, List.set_cons_zero, List.set_cons_succ])
              refine wpAnyH_done (by kernel_rfl) ?_ _
              go_wp2
              go_roundg (gk - 1)
              case measure => omega
              case rel => exact ⟨j + 1, by omega, by go_num, by rw [HEJ.out]; have h := HI4.out; simp only [List.append_assoc] at h ⊢; exact h, HB4.out, HK4.out⟩
          · obtain rfl : j = T.size := by omega
            have h11 := HR2.out.1
            rw [List.take_of_length_le (by rw [HTZ.out]; exact Nat.le_refl _)] at h11
            have HI2 := Lib.hid h11
            have HB2 := Lib.hid (((Below.refl B wr0).alloc (by omega) _).trans HR2.out.2.1)
            have HK2 := Lib.hid (((Kept.refl b wr0).later HSBT.out).trans HR2.out.2.2)
            clear h11
            go_wp2
            go_roundg (gO - 1)
            case measure => omega
            case rel => exact ⟨k + 1, by omega, by go_num, HT2.out.trans (by rw [E1.out]), by rw [HT3.out, E1.out]; exact HI2.out, HBR.out.trans HB2.out, HKR.out.trans HK2.out⟩
      · replace p0 : wr.cell? ⟨b1, off + k * 5, none⟩ = some (.int .u8 1) := by rw [p0, h0]; rfl
        have e1 : putF1 x = ([42] ++ ((putF x.kids).1 ++ [42]), (putF x.kids).2) := by rw [HP1.out, h0]; rfl
        have E1 := Lib.hid e1
        clear e1 h0 HP1
        have hsb := (Below.refl wr.heap.size wr).alloc (Nat.le_refl _) (.cells #[.int .u8 1, .string ⟨x.text.toArray⟩, .string ⟨x.sub.toArray⟩, .string ⟨x.see.toArray⟩, .slice kA x.kids.length kc] 32)
        have hX1 := holdsUnder HXR.out hsb
        have x0 := hX1.cell 0
        have HX1 := Lib.hid hX1
        have hI1 := HI1.out.later hsb
        have HSB := Lib.hid hsb
        clear hX1 hsb
        go_wp2_with fail
        refine (within_any (HIH.out (manyL x.kids) (by omega)) x.kids (Nat.le_refl _) (by omega) (by omega) ⟨#[42]⟩ ⟨#[42]⟩ (by decide) (by decide) _ _ B b w.heap.size pre m (HKF.out.under (HSB.out.mono (by omega)) (fun _ h => h)) hI1 (by omega) ((HSB.out.cell (p := ⟨0, 0, none⟩) (show 0 < wr.heap.size by omega)).trans HCR.out) hB HX1.out (by omega)).mono ?_
        rintro e w2 ⟨rfl, hI2, hb2, hk2⟩
        have HI2 := Lib.hid hI2
        have HB2 := Lib.hid ((HSB.out.mono (by omega)).trans hb2)
        have HK2 := Lib.hid (((Kept.refl b wr).later HSB.out).trans hk2)
        clear hI1 hI2 hb2 hk2
        cases hok : (putF x.kids).2 with
        | true =>
          rw [hok] at E1
          clear hok
          go_wp2
          go_roundg (gk - 1)
          case measure => omega
          case rel => exact ⟨k + 1, by omega, by go_num, HT2.out.trans (by rw [E1.out]), by rw [HT3.out, E1.out]; exact HI2.out, HBR.out.trans HB2.out, HKR.out.trans HK2.out⟩
        | false =>
          rw [hok] at E1
          clear hok
          go_wp2
          go_ret
          obtain ⟨g1, g2⟩ := HF3.out (by rw [E1.out])
          exact ⟨by rw [g1]; rfl, by rw [g2, E1.out]; exact HI2.out, HB0.out.trans (HBR.out.trans HB2.out), HK0.out.trans (HKR.out.trans HK2.out)⟩
      · replace p0 : wr.cell? ⟨b1, off + k * 5, none⟩ = some (.int .u8 2) := by rw [p0, h0]; rfl
        have e1 : putF1 x = ([95] ++ ((putF x.kids).1 ++ [95]), (putF x.kids).2) := by rw [HP1.out, h0]; rfl
        have E1 := Lib.hid e1
        clear e1 h0 HP1
        have hsb := (Below.refl wr.heap.size wr).alloc (Nat.le_refl _) (.cells #[.int .u8 2, .string ⟨x.text.toArray⟩, .string ⟨x.sub.toArray⟩, .string ⟨x.see.toArray⟩, .slice kA x.kids.length kc] 32)
        have hX1 := holdsUnder HXR.out hsb
        have x0 := hX1.cell 0
        have HX1 := Lib.hid hX1
        have hI1 := HI1.out.later hsb
        have HSB := Lib.hid hsb
        clear hX1 hsb
        go_wp2_with fail
        refine (within_any (HIH.out (manyL x.kids) (by omega)) x.kids (Nat.le_refl _) (by omega) (by omega) ⟨#[95]⟩ ⟨#[95]⟩ (by decide) (by decide) _ _ B b w.heap.size pre m (HKF.out.under (HSB.out.mono (by omega)) (fun _ h => h)) hI1 (by omega) ((HSB.out.cell (p := ⟨0, 0, none⟩) (show 0 < wr.heap.size by omega)).trans HCR.out) hB HX1.out (by omega)).mono ?_
        rintro e w2 ⟨rfl, hI2, hb2, hk2⟩
        have HI2 := Lib.hid hI2
        have HB2 := Lib.hid ((HSB.out.mono (by omega)).trans hb2)
        have HK2 := Lib.hid (((Kept.refl b wr).later HSB.out).trans hk2)
        clear hI1 hI2 hb2 hk2
        cases hok : (putF x.kids).2 with
        | true =>
          rw [hok] at E1
          clear hok
          go_wp2
          go_roundg (gk - 1)
          case measure => omega
          case rel => exact ⟨k + 1, by omega, by go_num, HT2.out.trans (by rw [E1.out]), by rw [HT3.out, E1.out]; exact HI2.out, HBR.out.trans HB2.out, HKR.out.trans HK2.out⟩
        | false =>
          rw [hok] at E1
          clear hok
          go_wp2
          go_ret
          obtain ⟨g1, g2⟩ := HF3.out (by rw [E1.out])
          exact ⟨by rw [g1]; rfl, by rw [g2, E1.out]; exact HI2.out, HB0.out.trans (HBR.out.trans HB2.out), HK0.out.trans (HKR.out.trans HK2.out)⟩
      · replace p0 : wr.cell? ⟨b1, off + k * 5, none⟩ = some (.int .u8 3) := by rw [p0, h0]; rfl
        have e1 : putF1 x = ([96] ++ x.text ++ [96], true) := by rw [HP1.out, h0]; rfl
        have E1 := Lib.hid e1
        clear e1 h0 HP1
        have hsb := (Below.refl wr.heap.size wr).alloc (Nat.le_refl _) (.cells #[.int .u8 3, .string ⟨x.text.toArray⟩, .string ⟨x.sub.toArray⟩, .string ⟨x.see.toArray⟩, .slice kA x.kids.length kc] 32)
        have hX1 := holdsUnder HXR.out hsb
        have x0 := hX1.cell 0
        have HX1 := Lib.hid hX1
        have hI1 := HI1.out.later hsb
        have HSB := Lib.hid hsb
        clear hX1 hsb
        go_wp2_with fail
        refine (bldK_three B b pre [96] x.text [96] _ hI1 (by simp only [List.length_cons, List.length_nil]; omega) (by simp; omega)).mono ?_
        rintro e w2 ⟨⟨v8, rfl⟩, hI2, hb2, hk2⟩
        have HI2 : Hid (BldF B b (pre ++ ([96] ++ x.text ++ [96])) w2) := by
          unfold Hid
          exact hI2
        have HB2 := Lib.hid ((HSB.out.mono (by omega)).trans hb2)
        have HK2 := Lib.hid (((Kept.refl b wr).later HSB.out).trans hk2)
        clear hI1 hI2 hb2 hk2
        go_wp2
        go_roundg (gk - 1)
        case measure => omega
        case rel => exact ⟨k + 1, by omega, by go_num, HT2.out.trans (by rw [E1.out]), by rw [HT3.out, E1.out]; exact HI2.out, HBR.out.trans HB2.out, HKR.out.trans HK2.out⟩
      · replace p0 : wr.cell? ⟨b1, off + k * 5, none⟩ = some (.int .u8 4) := by rw [p0, h0]; rfl
        have e1 : putF1 x = ([60, 60] ++ x.text ++ [62, 62], true) := by rw [HP1.out, h0]; rfl
        have E1 := Lib.hid e1
        clear e1 h0 HP1
        have hsb := (Below.refl wr.heap.size wr).alloc (Nat.le_refl _) (.cells #[.int .u8 4, .string ⟨x.text.toArray⟩, .string ⟨x.sub.toArray⟩, .string ⟨x.see.toArray⟩, .slice kA x.kids.length kc] 32)
        have hX1 := holdsUnder HXR.out hsb
        have x0 := hX1.cell 0
        have HX1 := Lib.hid hX1
        have hI1 := HI1.out.later hsb
        have HSB := Lib.hid hsb
        clear hX1 hsb
        go_wp2_with fail
        refine (bldK_three B b pre [60, 60] x.text [62, 62] _ hI1 (by simp only [List.length_cons, List.length_nil]; omega) (by simp; omega)).mono ?_
        rintro e w2 ⟨⟨v8, rfl⟩, hI2, hb2, hk2⟩
        have HI2 : Hid (BldF B b (pre ++ ([60, 60] ++ x.text ++ [62, 62])) w2) := by
          unfold Hid
          exact hI2
        have HB2 := Lib.hid ((HSB.out.mono (by omega)).trans hb2)
        have HK2 := Lib.hid (((Kept.refl b wr).later HSB.out).trans hk2)
        clear hI1 hI2 hb2 hk2
        go_wp2
        go_roundg (gk - 1)
        case measure => omega
        case rel => exact ⟨k + 1, by omega, by go_num, HT2.out.trans (by rw [E1.out]), by rw [HT3.out, E1.out]; exact HI2.out, HBR.out.trans HB2.out, HKR.out.trans HK2.out⟩
      · replace p0 : wr.cell? ⟨b1, off + k * 5, none⟩ = some (.int .u8 5) := by rw [p0, h0]; rfl
        have E0 : Hid (putF1 x = ([40, 40] ++ (if parseB (textL x.text x.sub x.see) = some (x.text, x.sub, x.see) then textL x.text x.sub x.see else []) ++ [41, 41], decide (parseB (textL x.text x.sub x.see) = some (x.text, x.sub, x.see)))) := by unfold Hid; rw [HP1.out, h0]; rfl
        clear h0 HP1
        have hsb := (Below.refl wr.heap.size wr).alloc (Nat.le_refl _) (.cells #[.int .u8 5, .string ⟨x.text.toArray⟩, .string ⟨x.sub.toArray⟩, .string ⟨x.see.toArray⟩, .slice kA x.kids.length kc] 32)
        have hX1 := holdsUnder HXR.out hsb
        have x0 := hX1.cell 0
        have HX1 := Lib.hid hX1
        have hI1 := HI1.out.later hsb
        have HSB := Lib.hid hsb
        clear hX1 hsb
        go_wp2_with fail
        refine (putText_any x _ m ((HSB.out.cell (p := ⟨0, 0, none⟩) (show 0 < wr.heap.size by omega)).trans HCR.out) (by omega)).mono ?_
        rintro e w2 ⟨t, er, ok, rfl, hb2, hok, htl, hpf⟩
        have E1 : Hid (putF1 x = (40 :: 40 :: (t ++ [41, 41]), ok)) := E0.out.trans hpf
        have hX2 := holdsUnder HX1.out hb2
        have x1 := hX2.cell 0
        have hI2 := hI1.later hb2
        have hs2 := hb2.size
        simp only [World.size_alloc] at hs2
        have HB2 := Lib.hid (HSB.out.trans (hb2.mono (by simp)))
        clear hX2 hb2 hpf hI1 x0
        cases ok with
        | true =>
          go_wp2_with fail
          refine (bldK_three B b pre [40, 40] t [41, 41] _ hI2 (by simp only [List.length_cons, List.length_nil]; omega) (by omega)).mono ?_
          rintro e w3 ⟨⟨v8, rfl⟩, hI3, hb3, hk3⟩
          have HI2 : Hid (BldF B b (pre ++ (40 :: 40 :: (t ++ [41, 41]))) w3) := by
            unfold Hid
            simpa using hI3
          have HK2 := Lib.hid (((Kept.refl b wr).later HB2.out).trans hk3)
          replace HB2 := Lib.hid ((HB2.out.mono (show B ≤ wr.heap.size by omega)).trans hb3)
          clear hI2 hI3 hb3 hk3
          go_wp2
          go_roundg (gk - 1)
          case measure => omega
          case rel => exact ⟨k + 1, by omega, by go_num, HT2.out.trans (by rw [E1.out]), by rw [HT3.out, E1.out]; exact HI2.out, HBR.out.trans HB2.out, HKR.out.trans HK2.out⟩
        | false =>
          go_wp2_with fail
          refine (bldK_three B b pre [40, 40] t [41, 41] _ hI2 (by simp only [List.length_cons, List.length_nil]; omega) (by omega)).mono ?_
          rintro e w3 ⟨⟨v8, rfl⟩, hI3, hb3, hk3⟩
          have HI2 : Hid (BldF B b (pre ++ (40 :: 40 :: (t ++ [41, 41]))) w3) := by
            unfold Hid
            simpa using hI3
          have HK2 := Lib.hid (((Kept.refl b wr).later HB2.out).trans hk3)
          replace HB2 := Lib.hid ((HB2.out.mono (show B ≤ wr.heap.size by omega)).trans hb3)
          clear hI2 hI3 hb3 hk3
          go_wp2
          go_ret
          obtain ⟨g1, g2⟩ := HF3.out (by rw [E1.out])
          exact ⟨by rw [g1]; rfl, by rw [g2, E1.out]; exact HI2.out, HB0.out.trans (HBR.out.trans HB2.out), HK0.out.trans (HKR.out.trans HK2.out)⟩
      · replace p0 : wr.cell? ⟨b1, off + k * 5, none⟩ = some (.int .u8 6) := by rw [p0, h0]; rfl
        have e1 : putF1 x = ([94, 91] ++ ((putF x.kids).1 ++ [93]), (putF x.kids).2) := by rw [HP1.out, h0]; rfl
        have E1 := Lib.hid e1
        clear e1 h0 HP1
        have hsb := (Below.refl wr.heap.size wr).alloc (Nat.le_refl _) (.cells #[.int .u8 6, .string ⟨x.text.toArray⟩, .string ⟨x.sub.toArray⟩, .string ⟨x.see.toArray⟩, .slice kA x.kids.length kc] 32)
        have hX1 := holdsUnder HXR.out hsb
        have x0 := hX1.cell 0
        have HX1 := Lib.hid hX1
        have hI1 := HI1.out.later hsb
        have HSB := Lib.hid hsb
        clear hX1 hsb
        go_wp2_with fail
        refine (within_any (HIH.out (manyL x.kids) (by omega)) x.kids (Nat.le_refl _) (by omega) (by omega) ⟨#[94, 91]⟩ ⟨#[93]⟩ (by decide) (by decide) _ _ B b w.heap.size pre m (HKF.out.under (HSB.out.mono (by omega)) (fun _ h => h)) hI1 (by omega) ((HSB.out.cell (p := ⟨0, 0, none⟩) (show 0 < wr.heap.size by omega)).trans HCR.out) hB HX1.out (by omega)).mono ?_
        rintro e w2 ⟨rfl, hI2, hb2, hk2⟩
        have HI2 := Lib.hid hI2
        have HB2 := Lib.hid ((HSB.out.mono (by omega)).trans hb2)
        have HK2 := Lib.hid (((Kept.refl b wr).later HSB.out).trans hk2)
        clear hI1 hI2 hb2 hk2
        cases hok : (putF x.kids).2 with
        | true =>
          rw [hok] at E1
          clear hok
          go_wp2
          go_roundg (gk - 1)
          case measure => omega
          case rel => exact ⟨k + 1, by omega, by go_num, HT2.out.trans (by rw [E1.out]), by rw [HT3.out, E1.out]; exact HI2.out, HBR.out.trans HB2.out, HKR.out.trans HK2.out⟩
        | false =>
          rw [hok] at E1
          clear hok
          go_wp2
          go_ret
          obtain ⟨g1, g2⟩ := HF3.out (by rw [E1.out])
          exact ⟨by rw [g1]; rfl, by rw [g2, E1.out]; exact HI2.out, HB0.out.trans (HBR.out.trans HB2.out), HK0.out.trans (HKR.out.trans HK2.out)⟩
      · obtain ⟨z0, z1, z2, z3, z4, z5, z6⟩ := h0
        have e1 : putF1 x = ([], false) := by rw [HP1.out, if_neg z0, if_neg z1, if_neg z2, if_neg z3, if_neg z4, if_neg z5, if_neg z6]
        have E1 := Lib.hid e1
        have t0 : ((x.kind : Int) == 0) = false := by rw [beq_eq_false_iff_ne]; omega
        have t1 : ((x.kind : Int) == 1) = false := by rw [beq_eq_false_iff_ne]; omega
        have t2 : ((x.kind : Int) == 2) = false := by rw [beq_eq_false_iff_ne]; omega
        have t3 : ((x.kind : Int) == 3) = false := by rw [beq_eq_false_iff_ne]; omega
        have t4 : ((x.kind : Int) == 4) = false := by rw [beq_eq_false_iff_ne]; omega
        have t5 : ((x.kind : Int) == 5) = false := by rw [beq_eq_false_iff_ne]; omega
        have t6 : ((x.kind : Int) == 6) = false := by rw [beq_eq_false_iff_ne]; omega
        have hsb := (Below.refl wr.heap.size wr).alloc (Nat.le_refl _) (.cells #[.int .u8 (x.kind : Int), .string ⟨x.text.toArray⟩, .string ⟨x.sub.toArray⟩, .string ⟨x.see.toArray⟩, .slice kA x.kids.length kc] 32)
        have HI2 := Lib.hid (HI1.out.later hsb)
        have HB2 := Lib.hid (hsb.mono (show B ≤ wr.heap.size by omega))
        have HK2 := Lib.hid ((Kept.refl b wr).later hsb)
        clear e1 hsb
        go_wp2
        go_ret
        obtain ⟨g1, g2⟩ := HF3.out (by rw [E1.out])
        exact ⟨by rw [g1]; rfl, by rw [g2, E1.out, List.append_nil]; exact HI2.out, HB0.out.trans (HBR.out.trans HB2.out), HK0.out.trans (HKR.out.trans HK2.out)⟩
    · obtain rfl : k = n := by omega
      go_wp2
      go_ret
      have h1 := HR.out.1
      have h2 := HT.out
      rw [List.take_of_length_le (by rw [HN.out]; exact Nat.le_refl _)] at h1 h2
      exact ⟨by rw [h2]; rfl, h1, HB0.out.trans HR.out.2.1, HK0.out.trans HR.out.2.2⟩
theorem put_any (N : Nat) : PutOk N := by
  induction N using Nat.strongRecOn with
  | _ N ih => exact put_step ih
end Go.Proofs.YtmdbhdhfdldegaaGreatDoor
