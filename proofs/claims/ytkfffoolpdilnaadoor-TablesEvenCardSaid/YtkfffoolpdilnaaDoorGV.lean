/-
  The law TablesEven: its walk.
-/
import Derived.Test.YtkfffoolpdilnaaDoorGI
import Derived.Test.YtkfffoolpdilnaaDoorNums
import Derived.Test.YtkfffoolpdilnaaDoorVec2
namespace Go.Proofs.YtkfffoolpdilnaaDoor
open Go.RowKit Go.Bd
def evenB (ns : List Nat) : Bool := ns.all (· == ns.headD 0)
theorem evenB_true {ns : List Nat} (h : ∀ (j : Nat) n, j < ns.length → ns[j]? = some n → n = ns.headD 0) : evenB ns = true := by
  rw [evenB, List.all_eq_true]
  intro n hn
  obtain ⟨j, hj⟩ := List.mem_iff_getElem?.1 hn
  have := h j n (List.getElem?_eq_some_iff.1 hj).1 hj
  rw [this]; simp
theorem evenB_false {ns : List Nat} {j n : Nat} (h : ns[j]? = some n) (hn : n ≠ ns.headD 0) : evenB ns = false := by
  rw [evenB, List.all_eq_false]
  exact ⟨n, List.mem_of_getElem? h, by simpa using hn⟩
set_option maxRecDepth 100000 in
set_option maxHeartbeats 1000000 in
theorem even_any (v : Value) (vs : List Value) (ns : List Nat) (w : World) (B : Nat) (hR : Rd w B v vs) (hB : B ≤ w.heap.size) (hl : vs.length = ns.length) (hc : ∀ (j n : Nat), ns[j]? = some n → ∃ A c, vs[j]? = some (.slice A n c)) (hlen : ns.length ≤ 1000) :
    Calls Tryd.prog 17 #[v] w fun e w' => e = .returned (.bool (evenB ns)) ∧ Below w.heap.size w w' := by
  obtain ⟨A, c, rfl, hcl, f⟩ := hR.form
  have HL := Lib.hid hl
  rw [hl] at hcl ⊢
  have F : Hid (∀ (j n : Nat), ns[j]? = some n → ∃ b off A' c', A = some ⟨b, off, none⟩ ∧ b < w.heap.size ∧ w.cell? ⟨b, off + j, none⟩ = some (.slice A' n c')) := fun j n hj => by
    obtain ⟨A', c', hv⟩ := hc j n hj
    obtain ⟨b, off, h1, h2, h3⟩ := f j _ hv
    exact ⟨b, off, A', c', h1, by omega, h3⟩
  clear f hc hR hl
  generalize hm : ns.length = m at hlen hcl ⊢
  have HM := Lib.hid hm
  clear hm
  go_enter Tryd.func17, Tryd.ntmps17
  go_wp2
  go_loopg [7] m (fun r i wr => ∃ k : Nat, k + r = m ∧ i = .int .i64 k ∧ Hid (∀ (j n : Nat), j < k → ns[j]? = some n → n = ns.headD 0) ∧ Below w.heap.size w wr)
  case atStart => exact ⟨0, by omega, rfl, fun _ _ h => absurd h (by omega), Below.refl _ _⟩
  case round =>
    obtain ⟨k, hk, rfl, HE, hbl⟩ := hrel
    by_cases hlt : k < m
    · obtain ⟨n, hn⟩ : ∃ x, ns[k]? = some x := ⟨_, List.getElem?_eq_getElem (by rw [HM.out]; exact hlt)⟩
      obtain ⟨n0, hn0⟩ : ∃ x, ns[0]? = some x := ⟨_, List.getElem?_eq_getElem (by rw [HM.out]; omega)⟩
      obtain ⟨b, off, A1, c1, rfl, hb, hc1⟩ := F.out k n hn
      obtain ⟨_, _, A0, c0, e1, _, hc0⟩ := F.out 0 n0 hn0
      cases e1
      replace hc1 := (hbl.cell (p := ⟨b, off + k, none⟩) hb).trans hc1
      replace hc0 := (hbl.cell (p := ⟨b, off + 0, none⟩) hb).trans hc0
      have HH : Hid (ns.headD 0 = n0) := by
        cases ns with
        | nil => simp at hn0
        | cons a l => simp at hn0; exact hn0
      have HN := Lib.hid hn
      clear hn hn0
      rw [Nat.add_zero] at hc0
      have hbs := hbl.size
      have hbw : b < wr.heap.size := by omega
      by_cases he : n = n0
      · have HN0 := Lib.hid he
        have ht : ((n : Int) != (n0 : Int)) = false := by simp; exact_mod_cast he
        clear he
        go_wp2
        go_quiet (fail)
        go_wp2
        go_roundg (gk - 1)
        case measure => omega
        case rel =>
          refine ⟨k + 1, by omega, by go_num, fun j q hj hq => ?_, below_drewN (hbl.alloc hbs _) _⟩
          by_cases hjk : j < k
          · exact HE.out j q hjk hq
          · obtain rfl : j = k := by omega
            rw [HN.out] at hq
            cases hq
            rw [HH.out]; exact HN0.out
      · have hv : evenB ns = false := evenB_false HN.out (by rw [HH.out]; exact he)
        have HV := Lib.hid hv
        have ht : ((n : Int) != (n0 : Int)) = true := by simp; exact_mod_cast he
        clear he hv
        go_wp2
        go_quiet (fail)
        go_wp2
        go_ret
        exact ⟨ret_bool HV.out.symm, below_drewN (hbl.alloc hbs _) _⟩
    · have HV : Hid (evenB ns = true) := evenB_true fun j n hj hn => HE.out j n (by rw [HM.out] at hj; omega) hn
      go_wp2
      go_ret
      exact ⟨ret_bool HV.out.symm, hbl⟩
theorem cell_info : (Tryd.prog.info? 114).map (fun i => (i.zero, i.size, i.bytes)) = some (some (.agg #[.slice none 0 0]), 1, 24) := by kernel_rfl
theorem row_info : (Tryd.prog.info? 40).map (fun i => (i.zero, i.size, i.bytes)) = some (some (.agg #[.slice none 0 0]), 1, 24) := by kernel_rfl
/-- how many cells each row has -/
def fives (xs : List Int) : List Nat := xs.map fun x => (x % 5).toNat
def evTo (ns : List Nat) (k : Nat) : Bool := (ns.take k).all (· == ns.headD 0)
theorem evTo_succ {ns : List Nat} {k n : Nat} (h : ns[k]? = some n) : evTo ns (k + 1) = (evTo ns k && n == ns.headD 0) := by
  rw [evTo, List.take_add_one, h, List.all_append]
  simp [evTo]
theorem evTo_all (ns : List Nat) (k : Nat) (h : ns.length ≤ k) : evTo ns k = evenB ns := by rw [evTo, List.take_of_length_le h, evenB]
theorem fives_get {xs : List Int} {k : Nat} {x : Int} (h : xs[k]? = some x) : (fives xs)[k]? = some (x % 5).toNat := by rw [fives, List.getElem?_map, h]; rfl
theorem evenB_one (ns : List Nat) : evenB (ns.take 1) = true := by cases ns <;> simp [evenB]
def RowsAre (RV : List Value) (ns : List Nat) (k : Nat) : Prop := ∀ (j n : Nat), j < k → ns[j]? = some n → ∃ A c, RV[j]? = some (.slice A n c)
theorem RowsAre.snoc {RV : List Value} {ns : List Nat} {k n : Nat} (h : RowsAre RV ns k) (hl : RV.length = k) (hn : ns[k]? = some n) (A : Option Addr) (c : Nat) : RowsAre (RV ++ [.slice A n c]) ns (k + 1) := by
  intro j m hj hm
  by_cases hjk : j < k
  · obtain ⟨A', c', e⟩ := h j m hjk hm
    exact ⟨A', c', by rw [List.getElem?_append_left (by omega)]; exact e⟩
  · obtain rfl : j = k := by omega
    rw [hn] at hm
    cases hm
    exact ⟨A, c, by rw [List.getElem?_append_right (by omega), hl, Nat.sub_self]; rfl⟩
set_option maxRecDepth 100000 in
set_option maxHeartbeats 2000000 in
theorem tablesEven_any (v : Value) (xs : List Int) (m : Int) (w : World) (hm : w.cell? ⟨0, 0, none⟩ = some (.int .i64 m)) (hR : Rd w w.heap.size v (xs.map (Value.int .u8))) (hwf : ∀ x ∈ xs, (Lit.int .u8 x).wf = true) (hl : xs.length ≤ 140737488355328) :
    Calls Tryd.prog 7 #[v] w fun e w' => e = .returned (.bool true) ∧ Below w.heap.size w w' := by
  have hw0 : 0 < w.heap.size := World.block_lt_of_cell? w _ hm
  obtain ⟨A, c, rfl, hc, f⟩ := hR.form
  rw [List.length_map] at hc ⊢
  have F : Hid (∀ (j : Nat) x, xs[j]? = some x → ∃ b off, A = some ⟨b, off, none⟩ ∧ b < w.heap.size ∧ w.cell? ⟨b, off + j, none⟩ = some (.int .u8 x)) := fun j x hj => f j _ (by rw [List.getElem?_map, hj]; rfl)
  have HW : Hid (∀ x ∈ xs, 0 ≤ x ∧ x ≤ 255) := fun x hx => by
    obtain ⟨h1, h2⟩ := bounds_u8 (hwf x hx)
    exact ⟨h1, by omega⟩
  have HX : Hid (∀ (j : Nat) x, xs[j]? = some x → (fives xs)[j]? = some (x % 5).toNat) := fun j x hj => fives_get hj
  have HFL : Hid ((fives xs).length = xs.length) := by unfold Hid fives; simp
  have HHD : Hid (∀ x, xs[0]? = some x → (fives xs).headD 0 = (x % 5).toNat) := fun x hx => by
    cases xs with
    | nil => simp at hx
    | cons a l => simp at hx; subst hx; rfl
  clear f hR hwf
  generalize fives xs = ns at HX HFL HHD
  generalize hn : xs.length = n at hl hc HFL ⊢
  have HN := Lib.hid hn
  clear hn
  go_enter Tryd.func7, Tryd.ntmps7
  go_wp2_with fail
  refine (alive_any m w hm).mono ?_
  rintro e w1 ⟨rfl, hb1⟩
  by_cases hbig : 200 < n
  · have hbi : decide (200 < (n : Int)) = true := by simp; omega
    go_wp2_with fail
    refine (alive_any m _ ((hb1.cell (p := ⟨0, 0, none⟩) hw0).trans hm)).mono ?_
    rintro e w2 ⟨rfl, hb2⟩
    go_wp2
    go_ret
    exact ⟨rfl, hb1.trans (hb2.mono hb1.size)⟩
  · have hbi : decide (200 < (n : Int)) = false := by simp; omega
    have hs1 := hb1.size
    go_wp2
    go_loopg [3, 4, 5] n (fun r v b i wr => ∃ (k : Nat) (RV : List Value), k + r = n ∧ i = .int .i64 k ∧ b = .bool (evTo ns k) ∧ wr.ownsRow w1.heap.size 40 1 v k RV ∧ Hid (RowsAre RV ns k) ∧ Below w1.heap.size w1 wr)
    case atStart => exact ⟨0, [], by omega, rfl, rfl, World.ownsRow_nil _ _ _ _, fun _ _ h => absurd h (by omega), Below.refl _ _⟩
    case round =>
      obtain ⟨k, RV, hk, rfl, rfl, hown, HV, hbl⟩ := hrel
      by_cases hlt : k < n
      · obtain ⟨x, hx⟩ : ∃ x, xs[k]? = some x := ⟨_, List.getElem?_eq_getElem (by rw [HN.out]; exact hlt)⟩
        obtain ⟨x0, hx0⟩ : ∃ x, xs[0]? = some x := ⟨_, List.getElem?_eq_getElem (by rw [HN.out]; omega)⟩
        obtain ⟨hxl, hxu⟩ := HW.out x (List.mem_of_getElem? hx)
        obtain ⟨hyl, hyu⟩ := HW.out x0 (List.mem_of_getElem? hx0)
        obtain ⟨b, off, rfl, hb, hcx⟩ := F.out k x hx
        obtain ⟨_, _, e1, _, hc0⟩ := F.out 0 x0 hx0
        cases e1
        have HNK := Lib.hid (HX.out k x hx)
        have HN0 := Lib.hid (HHD.out x0 hx0)
        have hbw := hb1.trans (hbl.mono hs1)
        rw [Nat.add_zero] at hc0
        have hcx1 := (hbw.cell (p := ⟨b, off + k, none⟩) hb).trans hcx
        clear hx hx0
        have hsz := hbl.size
        have hq0 : 0 ≤ x % 5 := by omega
        have hq5 : x % 5 < 5 := by omega
        obtain ⟨q, hq⟩ : ∃ q : Nat, x % 5 = q := ⟨(x % 5).toNat, by omega⟩
        have HQ := Lib.hid hq
        clear hq
        go_wp2_with (at_make; refine wpList_makeA _ rfl _ _ 38 rfl wr.heap.size 114 (.agg #[.slice none 0 0]) 1 24 Tryd.underlying38 cell_info _ _ _ _ q rfl rfl HQ.out HQ.out (by have := HQ.out; omega) (by have := HQ.out; unfold maxLen; omega) (Nat.le_refl _) ?_)
        intro w3 zs hm3 hgr3
        have hown3 := hown.kept hgr3 (by cases hq : u3.ownBlock with | none => exact Or.inl rfl | some q => exact Or.inr (fun h => by cases h))
        have hbl3 : Below w1.heap.size w1 w3 := hbl.grown hgr3 hsz (fun q hq => by cases hq)
        have hsz3 := hbl3.size
        clear hm3 hgr3 hown hcx1
        go_wp2_with (at_builtin; refine wpList_app1 _ rfl _ _ 37 rfl w1.heap.size 40 (.agg #[.slice none 0 0]) 24 Tryd.underlying37 row_info rfl _ k _ rfl (hown3.alloc _) _ 1 (.slice (some ⟨wr.heap.size, 0, none⟩) q q) rfl (by simp) rfl (by unfold maxLen; omega) (by omega) (by simp; omega) ?_)
        intro v5 w5 hown5 hgr5
        have hbl5 : Below w1.heap.size w1 w5 := (hbl3.alloc hsz3 _).grown hgr5 (by simp; omega) (fun q hq => (hown3.lt q hq).1)
        have hbw5 := hb1.trans (hbl5.mono hs1)
        have hcx5 := (hbw5.cell (p := ⟨b, off + k, none⟩) hb).trans hcx
        have hc05 := (hbw5.cell (p := ⟨b, off, none⟩) hb).trans hc0
        have HNQ : Hid (ns[k]? = some q) := by
          unfold Hid
          have h1 := HNK.out
          have h2 := HQ.out
          rw [h1]; congr 1; omega
        have HV5 : Hid (RowsAre (RV ++ [.slice (some ⟨wr.heap.size, 0, none⟩) q q]) ns (k + 1)) := HV.out.snoc (own_length hown3) HNQ.out _ _
        have HE := Lib.hid (evTo_succ HNQ.out)
        clear hown3 hcx hc0 HV hbl hbl3 hsz3 hbw
        have hsz5 := hbl5.size
        have hk63 : 0 < n := by omega
        generalize hev : evTo ns k = ev at HE
        clear hev
        cases ev with
        | false =>
          go_wp2
          go_quiet (fail)
          go_wp2
          go_roundg (gk - 1)
          case measure => omega
          case rel => exact ⟨k + 1, _, by omega, by go_num, by rw [HE.out]; rfl, hown5, HV5, below_drewN hbl5 _⟩
        | true =>
          by_cases he : x % 5 = x0 % 5
          · have HT : Hid (evTo ns (k + 1) = true) := by
              unfold Hid
              rw [HE.out, HN0.out, ← he, HQ.out]; simp
            have ht : (x % 5 == x0 % 5) = true := by simpa using he
            clear he HE
            go_wp2
            go_quiet (fail)
            go_wp2
            go_roundg (gk - 1)
            case measure => omega
            case rel => exact ⟨k + 1, _, by omega, by go_num, by rw [HT.out], hown5, HV5, below_drewN hbl5 _⟩
          · have HT : Hid (evTo ns (k + 1) = false) := by
              unfold Hid
              rw [HE.out, HN0.out]
              have := HQ.out
              simp
              omega
            have ht : (x % 5 == x0 % 5) = false := by simpa using he
            clear he HE
            go_wp2
            go_quiet (fail)
            go_wp2
            go_roundg (gk - 1)
            case measure => omega
            case rel => exact ⟨k + 1, _, by omega, by go_num, by rw [HT.out], hown5, HV5, below_drewN hbl5 _⟩
      · obtain rfl : k = n := by omega
        have hrd := own_rd hown
        have hlen := own_length hown
        have hall := evTo_all ns k (by rw [HFL.out]; exact Nat.le_refl _)
        obtain ⟨A3, c3, rfl, hc3⟩ := own_slice hown
        have hsz := hbl.size
        have c1 := even_any _ RV ns wr wr.heap.size hrd (Nat.le_refl _) (by rw [hlen, HFL.out]) (fun j n hj => HV.out j n (by have := (List.getElem?_eq_some_iff.1 hj).1; rw [HFL.out] at this; exact this) hj) (by rw [HFL.out]; omega)
        have HRD := Lib.hid hrd
        have HLN := Lib.hid hlen
        rw [hall]
        clear hall hrd hlen
        generalize evenB ns = ev at c1
        go_wp2_with fail
        refine c1.mono ?_
        clear c1
        rintro e w4 ⟨rfl, hb4⟩
        have hbw4 := (hb1.trans (hbl.mono hs1)).trans (hb4.mono (by omega))
        have c2 := fun (j : Nat) (hj : j ≤ k) => even_any (.slice A3 j c3) (RV.take j) (ns.take j) w4 w4.heap.size (((HRD.out.below hb4).more hb4.size).take hj) (Nat.le_refl _) (by rw [List.length_take, List.length_take, HLN.out, HFL.out])
          (fun i n hi => by
            have hi1 := (List.getElem?_eq_some_iff.1 hi).1
            rw [List.length_take] at hi1
            rw [List.getElem?_take, if_pos (by omega)] at hi ⊢
            exact HV.out i n (by omega) hi) (by rw [List.length_take]; omega)
        have hk1 : k = 0 ∨ 1 ≤ k := by omega
        rcases hk1 with rfl | hk1
        · have c20 := c2 0 (Nat.le_refl _)
          rw [List.take_zero, show evenB [] = true from rfl] at c20
          clear c2
          have e0 : ((0 : Nat) : Int) = 0 := rfl
          rw [e0]
          clear e0
          cases ev with
          | _ =>
            go_wp2_with fail
            rw [show (min (1 : Int) 0).toNat = 0 from rfl]
            refine c20.mono ?_
            rintro e w6 ⟨rfl, hb6⟩
            go_wp2
            go_ret
            exact ⟨rfl, hbw4.trans (hb6.mono hbw4.size)⟩
        · have c21 := c2 1 hk1
          rw [evenB_one] at c21
          clear c2
          have hk2 : (1 : Int) ≤ k := by omega
          cases ev with
          | _ =>
            go_wp2_with fail
            rw [show (min (1 : Int) (k : Int)).toNat = 1 by omega]
            refine c21.mono ?_
            rintro e w6 ⟨rfl, hb6⟩
            go_wp2
            go_ret
            exact ⟨rfl, hbw4.trans (hb6.mono hbw4.size)⟩
end Go.Proofs.YtkfffoolpdilnaaDoor
