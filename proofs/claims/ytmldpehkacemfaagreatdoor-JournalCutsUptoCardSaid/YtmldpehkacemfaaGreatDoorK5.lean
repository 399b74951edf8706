/-
  What the chapter's laws share, part 5: plain facts, memory, and walks of functions. Its conditions: those that each theorem names.
-/
import Derived.Lib.SlBytesRow
import Derived.Lib.AppendZerosOnto
import Derived.Laws.CopyRow
import Derived.Defers
import Derived.Test.YtmldpehkacemfaaGreatDoorK4
set_option linter.unusedSimpArgs false
set_option linter.unusedVariables false
namespace Go.Proofs.YtmldpehkacemfaaGreatDoor
open Go.RowKit Go.Bd
theorem CmpOk.next {w0 w : World} {g gb : Nat} {l l' : List (ByteArray × Bs)} (h : CmpOk w0 g gb l) (hp : l'.Perm l) (hc : Chg w0 w (fun k => k = g)) : CmpOk w g gb l' :=
  fun W hW x hx y hy => h W (hc.trans hW (fun _ _ h => h)) x (hp.mem_iff.1 hx) y (hp.mem_iff.1 hy)
theorem PSt.len {w0 w : World} {g : Nat} {l l' : List (ByteArray × Bs)} {t : List Value} (hp : l'.Perm l) (_ : FRow w g l' t) (_ : Chg w0 w (fun k => k = g)) : l'.length = l.length := hp.length_eq
def Same (w0 : World) (g : Nat) (l : List (ByteArray × Bs)) (t : List Value) (w : World) : Prop := FRow w g l t ∧ Chg w0 w (fun k => k = g)
theorem Same.later {w0 w w' : World} {g : Nat} {l : List (ByteArray × Bs)} {t : List Value} (h : Same w0 g l t w) (hb : Below w.heap.size w w') : Same w0 g l t w' := ⟨holds_later h.1 hb, h.2.trans (Chg.below hb (fun _ => False)) (fun _ _ h => h.elim)⟩
theorem Same.pst {w0 w : World} {g : Nat} {l : List (ByteArray × Bs)} {t : List Value} (h : Same w0 g l t w) : PSt w0 g l t w := ⟨l, List.Perm.refl _, h.1, h.2⟩
set_option maxRecDepth 100000 in
set_option maxHeartbeats 4000000 in
theorem rotate_any {w : World} {g c : Nat} {l : List (ByteArray × Bs)} {t : List Value} (hF : FRow w g l t) (hl : l.length ≤ 1000000) (hc : l.length ≤ c) (a m b : Nat) (ha : a < m) (hm : m < b) (hb : b ≤ l.length) (f : Value) :
    Calls Tryz.prog 82 #[.slice (some ⟨g, 0, none⟩) l.length c, .int .i64 (a : Int), .int .i64 (m : Int), .int .i64 (b : Int), f] w fun e w' => e = .returned (.tuple #[]) ∧ PSt w g l t w' := by
  have HS : Hid (∀ W, PSt w g l t W → ∀ (x y n : Nat) (xi yi ni : Int), x + n ≤ l.length → y + n ≤ l.length → xi = (x : Int) → yi = (y : Int) → ni = (n : Int) → Calls Tryz.prog 97 #[.slice (some ⟨g, 0, none⟩) l.length c, .int .i64 xi, .int .i64 yi, .int .i64 ni, f] W fun e w' => e = .returned (.tuple #[]) ∧ PSt w g l t w') := Lib.hid (by
    rintro W ⟨l', hp, hF', hch⟩ x y n xi yi ni hx hy rfl rfl rfl
    have e := hp.length_eq
    have := swapRange_any hF' (by omega) (by omega) (c := c) x y n (by omega) (by omega) f
    rw [e] at this
    refine this.mono ?_
    rintro e w' ⟨rfl, h⟩
    exact ⟨rfl, h.then_ hp hch⟩)
  obtain ⟨n, hn⟩ : ∃ n, l.length = n := ⟨_, rfl⟩
  have HP := Lib.hid (PSt.refl hF)
  rw [hn] at hl hc hb HS ⊢
  clear hF hn
  go_enter Tryz.func82, Tryz.ntmps82
  go_wp2_with fail
  go_loopg [10, 11] (b - a) (fun q iv jv wr => ∃ i j : Nat, i + j = q ∧ 0 < i ∧ 0 < j ∧ i ≤ m - a ∧ j ≤ b - m ∧ iv = .int .i64 (i : Int) ∧ jv = .int .i64 (j : Int) ∧ Hid (PSt w g l t wr))
  case atStart => exact ⟨m - a, b - m, by omega, by omega, by omega, by omega, by omega, by go_num, by go_num, HP⟩
  case round =>
    obtain ⟨i, j, hq, hi, hj, him, hjb, rfl, rfl, HR⟩ := hrel
    by_cases heq : i = j
    · subst heq
      go_wp2_with (go_at_call 97; refine (HS.out _ HR.out (m - i) m i _ _ _ (by omega) (by omega) (by omega) (by omega) rfl).mono ?_; rintro e w2 ⟨rfl, h2⟩; have H2 := Lib.hid h2; clear h2)
      go_end0
      exact ⟨rfl, H2.out⟩
    · by_cases hgt : j < i
      · go_wp2_with (go_at_call 97; refine (HS.out _ HR.out (m - i) m j _ _ _ (by omega) (by omega) (by omega) (by omega) rfl).mono ?_; rintro e w2 ⟨rfl, h2⟩; have H2 := Lib.hid h2; clear h2)
        go_roundg i
        case measure => omega
        case rel => exact ⟨i - j, j, by omega, by omega, by omega, by omega, by omega, by go_num, by go_num, H2⟩
      · go_wp2_with (go_at_call 97; refine (HS.out _ HR.out (m - i) (m + j - i) i _ _ _ (by omega) (by omega) (by omega) (by omega) rfl).mono ?_; rintro e w2 ⟨rfl, h2⟩; have H2 := Lib.hid h2; clear h2)
        go_roundg j
        case measure => omega
        case rel => exact ⟨i, j - i, by omega, by omega, by omega, by omega, by omega, by go_num, by go_num, H2⟩
def SymOk (N : Nat) : Prop := ∀ (w : World) (g c : Nat) (l : List (ByteArray × Bs)) (t : List Value) (gb : Nat), FRow w g l t → l.length ≤ 1000000 → l.length ≤ c → CmpOk w g gb l → ∀ a m b : Nat, a < m → m < b → b ≤ l.length → b - a ≤ N →
  Calls Tryz.prog 68 #[.slice (some ⟨g, 0, none⟩) l.length c, .int .i64 (a : Int), .int .i64 (m : Int), .int .i64 (b : Int), .func (.func 25) #[] #[.pointer (some ⟨gb, 0, none⟩)]] w fun e w' => e = .returned (.tuple #[]) ∧ PSt w g l t w'
set_option maxRecDepth 100000 in
set_option maxHeartbeats 4000000 in
theorem symMerge_step {N : Nat} (ih : ∀ M, M < N → SymOk M) : SymOk N := by
  intro w g c l t gb hF hl hc hcmp a m b ham hmb hb hN
  obtain ⟨n, hn⟩ : ∃ n, l.length = n := ⟨_, rfl⟩
  have HR0 : Hid (Same w g l t w) := Lib.hid ⟨hF, Chg.refl _ _⟩
  have HC := Lib.hid hcmp
  have HL := Lib.hid hn
  have HIH := Lib.hid ih
  rw [hn] at hl hc hb ⊢
  clear hF hcmp hn ih
  go_enter Tryz.func68, Tryz.ntmps68
  by_cases h1 : m = a + 1
  · have e28 : ((m : Int) - (a : Int) == 1) = true := by rw [beq_iff_eq]; omega
    have hma : m ≤ a + 1 := by omega
    clear h1
    have d2 : 0 ≤ (a : Int) ∧ (a : Int) < (n : Int) := by omega
    have d4 : IntKind.i64.wrap (a : Int) = (a : Int) := wrap_i64n (by omega) (by omega)
    go_wp2_with fail
    go_loopg [10, 11] (b - m) (fun q iv jv wr => ∃ i j : Nat, j - i = q ∧ m ≤ i ∧ i ≤ j ∧ j ≤ b ∧ iv = .int .i64 (i : Int) ∧ jv = .int .i64 (j : Int) ∧ Hid (Same w g l t wr))
    case atStart => exact ⟨m, b, by omega, by omega, by omega, by omega, by go_num, by go_num, HR0⟩
    case round =>
      obtain ⟨i, j, hq, hi1, hij, hjb, rfl, rfl, HR⟩ := hrel
      by_cases hlt : i < j
      · skip
        go_wp2_with fail
        obtain ⟨h, hh⟩ : ∃ h : Nat, ((i : Int) + (j : Int)) / 2 = (h : Int) := ⟨((i + j) / 2 : Nat), by omega⟩
        have hih : i ≤ h := by omega
        have hhj : h < j := by omega
        have d1 : 0 ≤ (h : Int) ∧ (h : Int) < (n : Int) := by omega
        have d3 : IntKind.i64.wrap (h : Int) = (h : Int) := wrap_i64n (by omega) (by omega)
        rw [hh]
        clear hh
        have hRF := HR.out.1
        have hRC := HR.out.2
        obtain ⟨x, hx⟩ : ∃ x, l[h]? = some x := ⟨_, List.getElem?_eq_getElem (by rw [HL.out]; omega)⟩
        obtain ⟨y, hy⟩ : ∃ y, l[a]? = some y := ⟨_, List.getElem?_eq_getElem (by rw [HL.out]; omega)⟩
        obtain ⟨x0, x1⟩ := hRF.cell hx
        obtain ⟨y0, y1⟩ := hRF.cell hy
        have hcm := fun W (hW : Chg wr W (fun _ => False)) => HC.out W (hRC.trans hW (fun _ _ h => h.elim)) x (List.mem_of_getElem? hx) y (List.mem_of_getElem? hy)
        have hke : ∀ W, Below wr.heap.size wr W → Same w g l t W := fun W hb => HR.out.later hb
        obtain ⟨gx, hgx⟩ : ∃ gx : ByteArray, ⟨x.2.toArray⟩ = gx := ⟨_, rfl⟩
        obtain ⟨gy, hgy⟩ : ∃ gy : ByteArray, ⟨y.2.toArray⟩ = gy := ⟨_, rfl⟩
        obtain ⟨nx, hnx⟩ : ∃ nx, x.1 = nx := ⟨_, rfl⟩
        obtain ⟨ny, hny⟩ : ∃ ny, y.1 = ny := ⟨_, rfl⟩
        rw [hgx] at x1
        rw [hgy] at y1
        rw [hnx] at x0
        rw [hny] at y0
        simp only [hgx, hgy, hnx, hny] at hcm
        have HCM := Lib.hid hcm
        have HKE := Lib.hid hke
        have hgl : g < wr.heap.size := Holds.lt hRF
        clear hRF hRC hx hy hcm hke hgx hgy hnx hny
        refine wp_region_held_drew (S := (fun w' => w'.cell? ⟨g, h * 2, none⟩ = some (.string nx) ∧ w'.cell? ⟨g, h * 2 + 1, none⟩ = some (.string gx) ∧ w'.cell? ⟨g, a * 2, none⟩ = some (.string ny) ∧ w'.cell? ⟨g, a * 2 + 1, none⟩ = some (.string gy))) (by kernel_rfl) ?_ (fun hHeld0 => ?_)
        · (try dsimp only)
          first | exact ⟨x0, x1, y0, y1⟩ | exact ⟨u0, u1, u2, u3⟩
        refine wpAnyH_take (i := 0) (oi := ⟨some 40, _, _, _, _, _⟩) (v := ?_) rfl (by kernel_rfl) (by kernel_rfl) (by kernel_rfl) (fun _ _ _ h => h) (Or.inl ⟨by kernel_rfl, ?_⟩) (by assumption) ?_
        rotate_left
        · (intro w hSw; (try dsimp only at hSw); go_simp; (first | done | with_reducible rfl))
        (try simp only [Act.put, List.setIfInBounds_toArray, List.set_cons_zero, List.set_cons_succ])
        refine wpAnyH_take (i := 1) (oi := ⟨some 41, _, _, _, _, _⟩) (v := ?_) rfl (by kernel_rfl) (by kernel_rfl) (by kernel_rfl) (fun _ _ _ h => h) (Or.inl ⟨by kernel_rfl, ?_⟩) (by assumption) ?_
        rotate_left
        · (intro w hSw; (try dsimp only at hSw); go_simp; (first | done | with_reducible rfl))
        (try simp only [Act.put, List.setIfInBounds_toArray, List.set_cons_zero, List.set_cons_succ])
        refine wpAnyH_take (i := 2) (oi := ⟨some 42, _, _, _, _, _⟩) (v := ?_) rfl (by kernel_rfl) (by kernel_rfl) (by kernel_rfl) (fun _ _ _ h => h) (Or.inl ⟨by kernel_rfl, ?_⟩) (by assumption) ?_
        rotate_left
        · (intro w hSw; (try dsimp only at hSw); go_simp; (first | done | with_reducible rfl))
        (try simp only [Act.put, List.setIfInBounds_toArray, List.set_cons_zero, List.set_cons_succ])
        refine wpAnyH_take (i := 3) (oi := ⟨some 43, _, _, _, _, _⟩) (v := ?_) rfl (by kernel_rfl) (by kernel_rfl) (by kernel_rfl) (fun _ _ _ h => h) (Or.inl ⟨by kernel_rfl, ?_⟩) (by assumption) ?_
        rotate_left
        · (intro w hSw; (try dsimp only at hSw); go_simp; (first | done | with_reducible rfl))
        (try simp only [Act.put, List.setIfInBounds_toArray, List.set_cons_zero, List.set_cons_succ])
        refine wpAnyH_take (i := 4) (oi := ⟨some 44, _, _, _, _, _⟩) (v := ?_) rfl (by kernel_rfl) (by kernel_rfl) (by kernel_rfl) (fun _ _ _ h => h) (Or.inl ⟨by kernel_rfl, ?_⟩) (by assumption) ?_
        rotate_left
        · (intro w hSw; (try dsimp only at hSw); go_simp; (first | done | with_reducible rfl))
        (try simp only [Act.put, List.setIfInBounds_toArray, List.set_cons_zero, List.set_cons_succ])
        refine wpAnyH_take (i := 5) (oi := ⟨some 45, _, _, _, _, _⟩) (v := ?_) rfl (by kernel_rfl) (by kernel_rfl) (by kernel_rfl) (fun _ _ _ h => h) (Or.inl ⟨by kernel_rfl, ?_⟩) (by assumption) ?_
        rotate_left
        · (intro w hSw; (try dsimp only at hSw); go_simp; (first | done | with_reducible rfl))
        (try simp only [Act.put, List.setIfInBounds_toArray, List.set_cons_zero, List.set_cons_succ])
        refine wpAnyH_take (i := 6) (oi := ⟨some 46, _, _, _, _, _⟩) (v := ?_) rfl (by kernel_rfl) (by kernel_rfl) (by kernel_rfl) (fun _ _ _ h => h) (Or.inl ⟨by kernel_rfl, ?_⟩) (by assumption) ?_
        rotate_left
        · (intro w hSw; (try dsimp only at hSw); go_simp; (first | done | with_reducible rfl))
        (try simp only [Act.put, List.setIfInBounds_toArray, List.set_cons_zero, List.set_cons_succ])
        refine wpAnyH_take (i := 7) (oi := ⟨some 47, _, _, _, _, _⟩) (v := ?_) rfl (by kernel_rfl) (by kernel_rfl) (by kernel_rfl) (fun _ _ _ h => h) (Or.inl ⟨by kernel_rfl, ?_⟩) (by assumption) ?_
        rotate_left
        · (intro w hSw; (try dsimp only at hSw); go_simp; (first | done | with_reducible rfl))
        (try simp only [Act.put, List.setIfInBounds_toArray, List.set_cons_zero, List.set_cons_succ])
        refine wpAnyH_take (i := 8) (oi := ⟨some 48, _, _, _, _, _⟩) (v := ?_) rfl (by kernel_rfl) (by kernel_rfl) (by kernel_rfl) (fun _ _ _ h => h) (Or.inl ⟨by kernel_rfl, ?_⟩) (by assumption) ?_
        rotate_left
        · (intro w hSw; (try dsimp only at hSw); go_simp; (first | done | with_reducible rfl))
        (try simp only [Act.put, List.setIfInBounds_toArray, List.set_cons_zero, List.set_cons_succ])
        refine wpAnyH_ready (rs := [9]) (by kernel_rfl) (by simp) ?_
        refine AllReadyH.cons (o := ⟨some 49, _, _, _, _, _⟩) rfl (fun K hK => ?_) AllReadyH.nil
        go_simp
        refine (HCM.out _ (by first | exact Chg.refl _ _ | exact (Chg.refl _ _).drew)).mono ?_
        rintro e w2 ⟨⟨ci, rfl⟩, hb2'⟩
        have hb2 : Below wr.heap.size wr w2 := by first | exact hb2' | exact ((Below.refl _ wr).drew).trans hb2'
        have HP2 := Lib.hid (HKE.out w2 hb2)
        obtain ⟨cb, hcb⟩ : ∃ cb : Bool, decide (ci < 0) = cb := ⟨_, rfl⟩
        have u0 := (hb2.cell (p := ⟨g, h * 2, none⟩) hgl).trans x0
        have u1 := (hb2.cell (p := ⟨g, h * 2 + 1, none⟩) hgl).trans x1
        have u2 := (hb2.cell (p := ⟨g, a * 2, none⟩) hgl).trans y0
        have u3 := (hb2.cell (p := ⟨g, a * 2 + 1, none⟩) hgl).trans y1
        clear hb2' hb2
        refine hK.out _ _ ?_ (fun hHeld1 => ?_)
        · (try dsimp only)
          first | exact ⟨x0, x1, y0, y1⟩ | exact ⟨u0, u1, u2, u3⟩
        clear hK K hHeld0
        (try simp only [Act.put, List.setIfInBounds_toArray, List.set_cons_zero, List.set_cons_succ])
        refine wpAnyH_take (i := 10) (oi := ⟨some 50, _, _, _, _, _⟩) (v := ?_) rfl (by kernel_rfl) (by kernel_rfl) (by kernel_rfl) (fun _ _ _ h => h) (Or.inl ⟨by kernel_rfl, ?_⟩) (by assumption) ?_
        rotate_left
        · (intro w hSw; (try dsimp only at hSw); go_simp; (first | done | with_reducible rfl))
        (try simp only [Act.put, List.setIfInBounds_toArray, List.set_cons_zero, List.set_cons_succ])
        refine wpAnyH_done (by kernel_rfl) ?_ _
        clear u0 u1 u2 u3 x0 x1 y0 y1
        cases cb with
        | true =>
          go_wp2_with fail
          go_roundg (j - (h + 1))
          case measure => omega
          case rel => exact ⟨h + 1, j, by omega, by omega, by omega, by omega, by go_num, by go_num, HP2⟩
        | false =>
          go_wp2_with fail
          go_roundg (h - i)
          case measure => omega
          case rel => exact ⟨i, h, by omega, by omega, by omega, by omega, by go_num, by go_num, HP2⟩
      · obtain ⟨i1, rfl⟩ : ∃ i1, i = i1 + 1 := ⟨i - 1, by omega⟩
        have HR1 := Lib.hid HR.out.pst
        clear HR
        obtain ⟨wO, hwO⟩ : ∃ x, x = wr := ⟨_, rfl⟩
        subst hwO
        go_wp2_with fail
        go_loopg [13] (i1 - a) (fun q kv wr => ∃ k : Nat, k + q = i1 ∧ a ≤ k ∧ kv = .int .i64 (k : Int) ∧ Hid (PSt w g l t wr))
        case atStart => exact ⟨a, by omega, by omega, rfl, HR1⟩
        case round =>
          obtain ⟨k, hk, hak, rfl, HR⟩ := hrel
          by_cases hki : k < i1
          · skip
            obtain ⟨l', hp, hF', hch⟩ := HR.out
            have hll : l'.length = n := by rw [hp.length_eq, HL.out]
            obtain ⟨x, hx⟩ : ∃ x, l'[k]? = some x := ⟨_, List.getElem?_eq_getElem (by omega)⟩
            obtain ⟨y, hy⟩ : ∃ y, l'[(k + 1)]? = some y := ⟨_, List.getElem?_eq_getElem (by omega)⟩
            obtain ⟨x0, x1⟩ := hF'.cell hx
            obtain ⟨y0, y1⟩ := hF'.cell hy
            have fr := fun j => hF'.free j
            obtain ⟨z, z0, z1⟩ := hF'.again (i := k) (j := (k + 1)) (by omega) (by omega) y
            obtain ⟨v, v0, v1⟩ := hF'.again (i := (k + 1)) (j := k) (by omega) (by omega) x
            have fz := fun j => (hF'.put (i := k) (by omega) y).free j
            have fv := fun j => (hF'.put (i := (k + 1)) (by omega) x).free j
            have hS := PSt.swap hp hF' hch hx hy
            have hS2 := PSt.swap hp hF' hch hy hx
            obtain ⟨gx, hgx⟩ : ∃ gx : ByteArray, ⟨x.2.toArray⟩ = gx := ⟨_, rfl⟩
            obtain ⟨gy, hgy⟩ : ∃ gy : ByteArray, ⟨y.2.toArray⟩ = gy := ⟨_, rfl⟩
            rw [hgx] at x1 hS hS2 v0 v1 fv
            rw [hgy] at y1 hS hS2 z0 z1 fz
            have HS := Lib.hid (And.intro hS hS2)
            clear hp hF' hch hll hx hy hS hS2 hgx hgy
            go_wp2_with fail
            go_region
            all_goals (
              go_wp2_with fail
              go_roundg (gk - 1)
              case measure => omega
              case rel => exact ⟨k + 1, by omega, by omega, by go_num, Lib.hid (by first | exact HS.out.1 | exact HS.out.1.drew | exact HS.out.2 | exact HS.out.2.drew)⟩  )
          · go_wp2_with fail
            (try simp only [Exit.inBlock, Exit.then])
            refine bodyPost_ret (results_none rfl _ _ _) rfl ?_
            exact ⟨rfl, HR.out⟩
  · have e28 : ((m : Int) - (a : Int) == 1) = false := by rw [beq_eq_false_iff_ne]; omega
    have hma : ¬ (m : Int) - (a : Int) = 1 := by omega
    by_cases h2 : b = m + 1
    · have e80 : ((b : Int) - (m : Int) == 1) = true := by rw [beq_iff_eq]; omega
      have hbm : b ≤ m + 1 := by omega
      clear h2
      have d2 : 0 ≤ (m : Int) ∧ (m : Int) < (n : Int) := by omega
      have d4 : IntKind.i64.wrap (m : Int) = (m : Int) := wrap_i64n (by omega) (by omega)
      go_wp2_with fail
      go_loopg [14, 15] (m - a) (fun q iv jv wr => ∃ i j : Nat, j - i = q ∧ a ≤ i ∧ i ≤ j ∧ j ≤ m ∧ iv = .int .i64 (i : Int) ∧ jv = .int .i64 (j : Int) ∧ Hid (Same w g l t wr))
      case atStart => exact ⟨a, m, by omega, by omega, by omega, by omega, by go_num, by go_num, HR0⟩
      case round =>
        obtain ⟨i, j, hq, hi1, hij, hjb, rfl, rfl, HR⟩ := hrel
        by_cases hlt : i < j
        · skip
          go_wp2_with fail
          obtain ⟨h, hh⟩ : ∃ h : Nat, ((i : Int) + (j : Int)) / 2 = (h : Int) := ⟨((i + j) / 2 : Nat), by omega⟩
          have hih : i ≤ h := by omega
          have hhj : h < j := by omega
          have d1 : 0 ≤ (h : Int) ∧ (h : Int) < (n : Int) := by omega
          have d3 : IntKind.i64.wrap (h : Int) = (h : Int) := wrap_i64n (by omega) (by omega)
          rw [hh]
          clear hh
          have hRF := HR.out.1
          have hRC := HR.out.2
          obtain ⟨x, hx⟩ : ∃ x, l[m]? = some x := ⟨_, List.getElem?_eq_getElem (by rw [HL.out]; omega)⟩
          obtain ⟨y, hy⟩ : ∃ y, l[h]? = some y := ⟨_, List.getElem?_eq_getElem (by rw [HL.out]; omega)⟩
          obtain ⟨x0, x1⟩ := hRF.cell hx
          obtain ⟨y0, y1⟩ := hRF.cell hy
          have hcm := fun W (hW : Chg wr W (fun _ => False)) => HC.out W (hRC.trans hW (fun _ _ h => h.elim)) x (List.mem_of_getElem? hx) y (List.mem_of_getElem? hy)
          have hke : ∀ W, Below wr.heap.size wr W → Same w g l t W := fun W hb => HR.out.later hb
          obtain ⟨gx, hgx⟩ : ∃ gx : ByteArray, ⟨x.2.toArray⟩ = gx := ⟨_, rfl⟩
          obtain ⟨gy, hgy⟩ : ∃ gy : ByteArray, ⟨y.2.toArray⟩ = gy := ⟨_, rfl⟩
          obtain ⟨nx, hnx⟩ : ∃ nx, x.1 = nx := ⟨_, rfl⟩
          obtain ⟨ny, hny⟩ : ∃ ny, y.1 = ny := ⟨_, rfl⟩
          rw [hgx] at x1
          rw [hgy] at y1
          rw [hnx] at x0
          rw [hny] at y0
          simp only [hgx, hgy, hnx, hny] at hcm
          have HCM := Lib.hid hcm
          have HKE := Lib.hid hke
          have hgl : g < wr.heap.size := Holds.lt hRF
          clear hRF hRC hx hy hcm hke hgx hgy hnx hny
          refine wp_region_held_drew (S := (fun w' => w'.cell? ⟨g, m * 2, none⟩ = some (.string nx) ∧ w'.cell? ⟨g, m * 2 + 1, none⟩ = some (.string gx) ∧ w'.cell? ⟨g, h * 2, none⟩ = some (.string ny) ∧ w'.cell? ⟨g, h * 2 + 1, none⟩ = some (.string gy))) (by kernel_rfl) ?_ (fun hHeld0 => ?_)
          · (try dsimp only)
            first | exact ⟨x0, x1, y0, y1⟩ | exact ⟨u0, u1, u2, u3⟩
          refine wpAnyH_take (i := 0) (oi := ⟨some 92, _, _, _, _, _⟩) (v := ?_) rfl (by kernel_rfl) (by kernel_rfl) (by kernel_rfl) (fun _ _ _ h => h) (Or.inl ⟨by kernel_rfl, ?_⟩) (by assumption) ?_
          rotate_left
          · (intro w hSw; (try dsimp only at hSw); go_simp; (first | done | with_reducible rfl))
          (try simp only [Act.put, List.setIfInBounds_toArray, List.set_cons_zero, List.set_cons_succ])
          refine wpAnyH_take (i := 1) (oi := ⟨some 93, _, _, _, _, _⟩) (v := ?_) rfl (by kernel_rfl) (by kernel_rfl) (by kernel_rfl) (fun _ _ _ h => h) (Or.inl ⟨by kernel_rfl, ?_⟩) (by assumption) ?_
          rotate_left
          · (intro w hSw; (try dsimp only at hSw); go_simp; (first | done | with_reducible rfl))
          (try simp only [Act.put, List.setIfInBounds_toArray, List.set_cons_zero, List.set_cons_succ])
          refine wpAnyH_take (i := 2) (oi := ⟨some 94, _, _, _, _, _⟩) (v := ?_) rfl (by kernel_rfl) (by kernel_rfl) (by kernel_rfl) (fun _ _ _ h => h) (Or.inl ⟨by kernel_rfl, ?_⟩) (by assumption) ?_
          rotate_left
          · (intro w hSw; (try dsimp only at hSw); go_simp; (first | done | with_reducible rfl))
          (try simp only [Act.put, List.setIfInBounds_toArray, List.set_cons_zero, List.set_cons_succ])
          refine wpAnyH_take (i := 3) (oi := ⟨some 95, _, _, _, _, _⟩) (v := ?_) rfl (by kernel_rfl) (by kernel_rfl) (by kernel_rfl) (fun _ _ _ h => h) (Or.inl ⟨by kernel_rfl, ?_⟩) (by assumption) ?_
          rotate_left
          · (intro w hSw; (try dsimp only at hSw); go_simp; (first | done | with_reducible rfl))
          (try simp only [Act.put, List.setIfInBounds_toArray, List.set_cons_zero, List.set_cons_succ])
          refine wpAnyH_take (i := 4) (oi := ⟨some 96, _, _, _, _, _⟩) (v := ?_) rfl (by kernel_rfl) (by kernel_rfl) (by kernel_rfl) (fun _ _ _ h => h) (Or.inl ⟨by kernel_rfl, ?_⟩) (by assumption) ?_
          rotate_left
          · (intro w hSw; (try dsimp only at hSw); go_simp; (first | done | with_reducible rfl))
          (try simp only [Act.put, List.setIfInBounds_toArray, List.set_cons_zero, List.set_cons_succ])
          refine wpAnyH_take (i := 5) (oi := ⟨some 97, _, _, _, _, _⟩) (v := ?_) rfl (by kernel_rfl) (by kernel_rfl) (by kernel_rfl) (fun _ _ _ h => h) (Or.inl ⟨by kernel_rfl, ?_⟩) (by assumption) ?_
          rotate_left
          · (intro w hSw; (try dsimp only at hSw); go_simp; (first | done | with_reducible rfl))
          (try simp only [Act.put, List.setIfInBounds_toArray, List.set_cons_zero, List.set_cons_succ])
          refine wpAnyH_take (i := 6) (oi := ⟨some 98, _, _, _, _, _⟩) (v := ?_) rfl (by kernel_rfl) (by kernel_rfl) (by kernel_rfl) (fun _ _ _ h => h) (Or.inl ⟨by kernel_rfl, ?_⟩) (by assumption) ?_
          rotate_left
          · (intro w hSw; (try dsimp only at hSw); go_simp; (first | done | with_reducible rfl))
          (try simp only [Act.put, List.setIfInBounds_toArray, List.set_cons_zero, List.set_cons_succ])
          refine wpAnyH_take (i := 7) (oi := ⟨some 99, _, _, _, _, _⟩) (v := ?_) rfl (by kernel_rfl) (by kernel_rfl) (by kernel_rfl) (fun _ _ _ h => h) (Or.inl ⟨by kernel_rfl, ?_⟩) (by assumption) ?_
          rotate_left
          · (intro w hSw; (try dsimp only at hSw); go_simp; (first | done | with_reducible rfl))
          (try simp only [Act.put, List.setIfInBounds_toArray, List.set_cons_zero, List.set_cons_succ])
          refine wpAnyH_take (i := 8) (oi := ⟨some 100, _, _, _, _, _⟩) (v := ?_) rfl (by kernel_rfl) (by kernel_rfl) (by kernel_rfl) (fun _ _ _ h => h) (Or.inl ⟨by kernel_rfl, ?_⟩) (by assumption) ?_
          rotate_left
          · (intro w hSw; (try dsimp only at hSw); go_simp; (first | done | with_reducible rfl))
          (try simp only [Act.put, List.setIfInBounds_toArray, List.set_cons_zero, List.set_cons_succ])
          refine wpAnyH_ready (rs := [9]) (by kernel_rfl) (by simp) ?_
          refine AllReadyH.cons (o := ⟨some 101, _, _, _, _, _⟩) rfl (fun K hK => ?_) AllReadyH.nil
          go_simp
          refine (HCM.out _ (by first | exact Chg.refl _ _ | exact (Chg.refl _ _).drew)).mono ?_
          rintro e w2 ⟨⟨ci, rfl⟩, hb2'⟩
          have hb2 : Below wr.heap.size wr w2 := by first | exact hb2' | exact ((Below.refl _ wr).drew).trans hb2'
          have HP2 := Lib.hid (HKE.out w2 hb2)
          obtain ⟨cb, hcb⟩ : ∃ cb : Bool, decide (ci < 0) = cb := ⟨_, rfl⟩
          have u0 := (hb2.cell (p := ⟨g, m * 2, none⟩) hgl).trans x0
          have u1 := (hb2.cell (p := ⟨g, m * 2 + 1, none⟩) hgl).trans x1
          have u2 := (hb2.cell (p := ⟨g, h * 2, none⟩) hgl).trans y0
          have u3 := (hb2.cell (p := ⟨g, h * 2 + 1, none⟩) hgl).trans y1
          clear hb2' hb2
          refine hK.out _ _ ?_ (fun hHeld1 => ?_)
          · (try dsimp only)
            first | exact ⟨x0, x1, y0, y1⟩ | exact ⟨u0, u1, u2, u3⟩
          clear hK K hHeld0
          (try simp only [Act.put, List.setIfInBounds_toArray, List.set_cons_zero, List.set_cons_succ])
          refine wpAnyH_take (i := 10) (oi := ⟨some 102, _, _, _, _, _⟩) (v := ?_) rfl (by kernel_rfl) (by kernel_rfl) (by kernel_rfl) (fun _ _ _ h => h) (Or.inl ⟨by kernel_rfl, ?_⟩) (by assumption) ?_
          rotate_left
          · (intro w hSw; (try dsimp only at hSw); go_simp; (first | done | with_reducible rfl))
          (try simp only [Act.put, List.setIfInBounds_toArray, List.set_cons_zero, List.set_cons_succ])
          refine wpAnyH_take (i := 11) (oi := ⟨some 103, _, _, _, _, _⟩) (v := ?_) rfl (by kernel_rfl) (by kernel_rfl) (by kernel_rfl) (fun _ _ _ h => h) (Or.inl ⟨by kernel_rfl, ?_⟩) (by assumption) ?_
          rotate_left
          · (intro w hSw; (try dsimp only at hSw); go_simp; (first | done | with_reducible rfl))
          (try simp only [Act.put, List.setIfInBounds_toArray, List.set_cons_zero, List.set_cons_succ])
          refine wpAnyH_done (by kernel_rfl) ?_ _
          clear u0 u1 u2 u3 x0 x1 y0 y1
          cases cb with
          | true =>
            go_wp2_with fail
            go_roundg (h - i)
            case measure => omega
            case rel => exact ⟨i, h, by omega, by omega, by omega, by omega, by go_num, by go_num, HP2⟩
          | false =>
            go_wp2_with fail
            go_roundg (j - (h + 1))
            case measure => omega
            case rel => exact ⟨h + 1, j, by omega, by omega, by omega, by omega, by go_num, by go_num, HP2⟩
        · have HR1 := Lib.hid HR.out.pst
          clear HR
          obtain ⟨wO, hwO⟩ : ∃ x, x = wr := ⟨_, rfl⟩
          subst hwO
          go_wp2_with fail
          go_loopg [17] (m - i) (fun q kv wr => q ≤ m - i ∧ kv = .int .i64 ((i + q : Nat) : Int) ∧ Hid (PSt w g l t wr))
          case atStart => exact ⟨by omega, by go_num, HR1⟩
          case round =>
            obtain ⟨hqm, rfl, HR⟩ := hrel
            by_cases hz : gk = 0
            · subst hz
              simp only [Nat.add_zero]
              go_wp2_with fail
              (try simp only [Exit.inBlock, Exit.then])
              refine bodyPost_ret (results_none rfl _ _ _) rfl ?_
              exact ⟨rfl, HR.out⟩
            · obtain ⟨q2, rfl⟩ : ∃ q2, gk = q2 + 1 := ⟨gk - 1, by omega⟩
              obtain ⟨k, hk⟩ : ∃ k, i + q2 = k := ⟨_, rfl⟩
              have ek : i + (q2 + 1) = k + 1 := by omega
              rw [ek]
              have hki : (i : Int) < (k : Int) + 1 := by omega
              obtain ⟨l', hp, hF', hch⟩ := HR.out
              have hll : l'.length = n := by rw [hp.length_eq, HL.out]
              obtain ⟨x, hx⟩ : ∃ x, l'[(k + 1)]? = some x := ⟨_, List.getElem?_eq_getElem (by omega)⟩
              obtain ⟨y, hy⟩ : ∃ y, l'[k]? = some y := ⟨_, List.getElem?_eq_getElem (by omega)⟩
              obtain ⟨x0, x1⟩ := hF'.cell hx
              obtain ⟨y0, y1⟩ := hF'.cell hy
              have fr := fun j => hF'.free j
              obtain ⟨z, z0, z1⟩ := hF'.again (i := (k + 1)) (j := k) (by omega) (by omega) y
              obtain ⟨v, v0, v1⟩ := hF'.again (i := k) (j := (k + 1)) (by omega) (by omega) x
              have fz := fun j => (hF'.put (i := (k + 1)) (by omega) y).free j
              have fv := fun j => (hF'.put (i := k) (by omega) x).free j
              have hS := PSt.swap hp hF' hch hx hy
              have hS2 := PSt.swap hp hF' hch hy hx
              obtain ⟨gx, hgx⟩ : ∃ gx : ByteArray, ⟨x.2.toArray⟩ = gx := ⟨_, rfl⟩
              obtain ⟨gy, hgy⟩ : ∃ gy : ByteArray, ⟨y.2.toArray⟩ = gy := ⟨_, rfl⟩
              rw [hgx] at x1 hS hS2 v0 v1 fv
              rw [hgy] at y1 hS hS2 z0 z1 fz
              have HS := Lib.hid (And.intro hS hS2)
              clear hp hF' hch hll hx hy hS hS2 hgx hgy
              go_wp2_with fail
              go_region
              all_goals (
                go_wp2_with fail
                go_roundg q2
                case measure => omega
                case rel => exact ⟨by omega, by first | go_num | (rw [hk]; go_num), Lib.hid (by first | exact HS.out.1 | exact HS.out.1.drew | exact HS.out.2 | exact HS.out.2.drew)⟩  )
    · have e80 : ((b : Int) - (m : Int) == 1) = false := by rw [beq_eq_false_iff_ne]; omega
      have hbm : ¬ (b : Int) - (m : Int) = 1 := by omega
      obtain ⟨mid, hmid⟩ : ∃ mid : Nat, ((a : Int) + (b : Int)) / 2 = (mid : Int) := ⟨((a + b) / 2 : Nat), by omega⟩
      have hm1 : 2 * mid ≤ a + b ∧ a + b ≤ 2 * mid + 1 := by omega
      have hm2 : a < mid ∧ mid < b := by omega
      obtain ⟨fv, hfv⟩ : ∃ fv, Value.func (.func 25) #[] #[.pointer (some ⟨gb, 0, none⟩)] = fv := ⟨_, rfl⟩
      have HROT : Hid (∀ W, PSt w g l t W → ∀ (x y z : Nat) (xi yi zi : Int), x < y → y < z → z ≤ n → xi = (x : Int) → yi = (y : Int) → zi = (z : Int) → Calls Tryz.prog 82 #[.slice (some ⟨g, 0, none⟩) n c, .int .i64 xi, .int .i64 yi, .int .i64 zi, .func (.func 25) #[] #[.pointer (some ⟨gb, 0, none⟩)]] W fun e w' => e = .returned (.tuple #[]) ∧ PSt w g l t w') := Lib.hid (by
        rintro W ⟨l', hp, hF', hch⟩ x y z xi yi zi hx hy hz rfl rfl rfl
        have e := hp.length_eq
        have e2 := HL.out
        have := rotate_any hF' (by omega) (by omega) (c := c) x y z hx hy (by omega) (.func (.func 25) #[] #[.pointer (some ⟨gb, 0, none⟩)])
        rw [e, e2] at this
        refine this.mono ?_
        rintro e w' ⟨rfl, h⟩
        exact ⟨rfl, h.then_ hp hch⟩)
      have HSYM : Hid (∀ W, PSt w g l t W → ∀ (x y z : Nat) (xi yi zi : Int), x < y → y < z → z ≤ n → z - x < b - a → xi = (x : Int) → yi = (y : Int) → zi = (z : Int) → Calls Tryz.prog 68 #[.slice (some ⟨g, 0, none⟩) n c, .int .i64 xi, .int .i64 yi, .int .i64 zi, .func (.func 25) #[] #[.pointer (some ⟨gb, 0, none⟩)]] W fun e w' => e = .returned (.tuple #[]) ∧ PSt w g l t w') := Lib.hid (by
        rintro W ⟨l', hp, hF', hch⟩ x y z xi yi zi hx hy hz hlt rfl rfl rfl
        have e := hp.length_eq
        have e2 := HL.out
        have := HIH.out (z - x) (by omega) W g c l' t gb hF' (by omega) (by omega) (HC.out.next hp hch) x y z hx hy (by omega) (Nat.le_refl _)
        rw [e, e2] at this
        refine this.mono ?_
        rintro e w' ⟨rfl, h⟩
        exact ⟨rfl, h.then_ hp hch⟩)
      clear hfv
      by_cases hmm : mid < m
      · go_wp2_with fail
        go_loopg [20, 21] (b - m) (fun q sv rv wr => ∃ s r : Nat, r - s = q ∧ mid + m ≤ b + s ∧ s ≤ r ∧ r ≤ b ∧ r ≤ mid + m ∧ sv = .int .i64 (s : Int) ∧ rv = .int .i64 (r : Int) ∧ Hid (Same w g l t wr))
        case atStart => exact ⟨mid + m - b, mid, by omega, by omega, by omega, by omega, by omega, by go_num, by go_num, HR0⟩
        case round =>
          obtain ⟨s, r, hq, hs1, hsr, hrb, hrm, rfl, rfl, HR⟩ := hrel
          by_cases hlt : s < r
          · go_wp2_with fail
            obtain ⟨h, hh⟩ : ∃ h : Nat, ((s : Int) + (r : Int)) / 2 = (h : Int) := ⟨((s + r) / 2 : Nat), by omega⟩
            have hih : s ≤ h := by omega
            have hhj : h < r := by omega
            have d1 : 0 ≤ (h : Int) ∧ (h : Int) < (n : Int) := by omega
            have d3 : IntKind.i64.wrap (h : Int) = (h : Int) := wrap_i64n (by omega) (by omega)
            rw [hh]
            clear hh
            obtain ⟨pc, hpc⟩ : ∃ pc : Nat, pc = mid + m - 1 - h := ⟨_, rfl⟩
            have d5 : IntKind.i64.wrap ((mid : Int) + (m : Int) - 1 - (h : Int)) = (pc : Int) := by
              have e : (mid : Int) + (m : Int) - 1 - (h : Int) = (pc : Int) := by omega
              rw [e]; exact wrap_i64n (by omega) (by omega)
            have d6 : 0 ≤ (pc : Int) ∧ (pc : Int) < (n : Int) := by omega
            have hpn : pc < n := by omega
            clear hpc
            have hRF := HR.out.1
            have hRC := HR.out.2
            obtain ⟨x, hx⟩ : ∃ x, l[pc]? = some x := ⟨_, List.getElem?_eq_getElem (by rw [HL.out]; omega)⟩
            obtain ⟨y, hy⟩ : ∃ y, l[h]? = some y := ⟨_, List.getElem?_eq_getElem (by rw [HL.out]; omega)⟩
            obtain ⟨x0, x1⟩ := hRF.cell hx
            obtain ⟨y0, y1⟩ := hRF.cell hy
            have hcm := fun W (hW : Chg wr W (fun _ => False)) => HC.out W (hRC.trans hW (fun _ _ h => h.elim)) x (List.mem_of_getElem? hx) y (List.mem_of_getElem? hy)
            have hke : ∀ W, Below wr.heap.size wr W → Same w g l t W := fun W hb => HR.out.later hb
            obtain ⟨gx, hgx⟩ : ∃ gx : ByteArray, ⟨x.2.toArray⟩ = gx := ⟨_, rfl⟩
            obtain ⟨gy, hgy⟩ : ∃ gy : ByteArray, ⟨y.2.toArray⟩ = gy := ⟨_, rfl⟩
            obtain ⟨nx, hnx⟩ : ∃ nx, x.1 = nx := ⟨_, rfl⟩
            obtain ⟨ny, hny⟩ : ∃ ny, y.1 = ny := ⟨_, rfl⟩
            rw [hgx] at x1
            rw [hgy] at y1
            rw [hnx] at x0
            rw [hny] at y0
            simp only [hgx, hgy, hnx, hny] at hcm
            have HCM := Lib.hid hcm
            have HKE := Lib.hid hke
            have hgl : g < wr.heap.size := Holds.lt hRF
            clear hRF hRC hx hy hcm hke hgx hgy hnx hny
            refine wp_region_held_drew (S := (fun w' => w'.cell? ⟨g, pc * 2, none⟩ = some (.string nx) ∧ w'.cell? ⟨g, pc * 2 + 1, none⟩ = some (.string gx) ∧ w'.cell? ⟨g, h * 2, none⟩ = some (.string ny) ∧ w'.cell? ⟨g, h * 2 + 1, none⟩ = some (.string gy))) (by kernel_rfl) ?_ (fun hHeld0 => ?_)
            · (try dsimp only)
              first | exact ⟨x0, x1, y0, y1⟩ | exact ⟨u0, u1, u2, u3⟩
            refine wpAnyH_take (i := 0) (oi := ⟨some 158, _, _, _, _, _⟩) (v := ?_) rfl (by kernel_rfl) (by kernel_rfl) (by kernel_rfl) (fun _ _ _ h => h) (Or.inl ⟨by kernel_rfl, ?_⟩) (by assumption) ?_
            rotate_left
            · (intro w hSw; (try dsimp only at hSw); go_simp; (first | done | with_reducible rfl))
            (try simp only [Act.put, List.setIfInBounds_toArray, List.set_cons_zero, List.set_cons_succ])
            refine wpAnyH_take (i := 1) (oi := ⟨some 159, _, _, _, _, _⟩) (v := ?_) rfl (by kernel_rfl) (by kernel_rfl) (by kernel_rfl) (fun _ _ _ h => h) (Or.inl ⟨by kernel_rfl, ?_⟩) (by assumption) ?_
            rotate_left
            · (intro w hSw; (try dsimp only at hSw); go_simp; (first | done | with_reducible rfl))
            (try simp only [Act.put, List.setIfInBounds_toArray, List.set_cons_zero, List.set_cons_succ])
            refine wpAnyH_take (i := 2) (oi := ⟨some 160, _, _, _, _, _⟩) (v := ?_) rfl (by kernel_rfl) (by kernel_rfl) (by kernel_rfl) (fun _ _ _ h => h) (Or.inl ⟨by kernel_rfl, ?_⟩) (by assumption) ?_
            rotate_left
            · (intro w hSw; (try dsimp only at hSw); go_simp; (first | done | with_reducible rfl))
            (try simp only [Act.put, List.setIfInBounds_toArray, List.set_cons_zero, List.set_cons_succ])
            refine wpAnyH_take (i := 3) (oi := ⟨some 161, _, _, _, _, _⟩) (v := ?_) rfl (by kernel_rfl) (by kernel_rfl) (by kernel_rfl) (fun _ _ _ h => h) (Or.inl ⟨by kernel_rfl, ?_⟩) (by assumption) ?_
            rotate_left
            · (intro w hSw; (try dsimp only at hSw); go_simp; (first | done | with_reducible rfl))
            (try simp only [Act.put, List.setIfInBounds_toArray, List.set_cons_zero, List.set_cons_succ])
            refine wpAnyH_take (i := 4) (oi := ⟨some 162, _, _, _, _, _⟩) (v := ?_) rfl (by kernel_rfl) (by kernel_rfl) (by kernel_rfl) (fun _ _ _ h => h) (Or.inl ⟨by kernel_rfl, ?_⟩) (by assumption) ?_
            rotate_left
            · (intro w hSw; (try dsimp only at hSw); go_simp; (first | done | with_reducible rfl))
            (try simp only [Act.put, List.setIfInBounds_toArray, List.set_cons_zero, List.set_cons_succ])
            refine wpAnyH_take (i := 5) (oi := ⟨some 163, _, _, _, _, _⟩) (v := ?_) rfl (by kernel_rfl) (by kernel_rfl) (by kernel_rfl) (fun _ _ _ h => h) (Or.inl ⟨by kernel_rfl, ?_⟩) (by assumption) ?_
            rotate_left
            · (intro w hSw; (try dsimp only at hSw); go_simp; (first | done | with_reducible rfl))
            (try simp only [Act.put, List.setIfInBounds_toArray, List.set_cons_zero, List.set_cons_succ])
            refine wpAnyH_take (i := 6) (oi := ⟨some 164, _, _, _, _, _⟩) (v := ?_) rfl (by kernel_rfl) (by kernel_rfl) (by kernel_rfl) (fun _ _ _ h => h) (Or.inl ⟨by kernel_rfl, ?_⟩) (by assumption) ?_
            rotate_left
            · (intro w hSw; (try dsimp only at hSw); go_simp; (first | done | with_reducible rfl))
            (try simp only [Act.put, List.setIfInBounds_toArray, List.set_cons_zero, List.set_cons_succ])
            refine wpAnyH_take (i := 7) (oi := ⟨some 165, _, _, _, _, _⟩) (v := ?_) rfl (by kernel_rfl) (by kernel_rfl) (by kernel_rfl) (fun _ _ _ h => h) (Or.inl ⟨by kernel_rfl, ?_⟩) (by assumption) ?_
            rotate_left
            · (intro w hSw; (try dsimp only at hSw); go_simp; (first | done | with_reducible rfl))
            (try simp only [Act.put, List.setIfInBounds_toArray, List.set_cons_zero, List.set_cons_succ])
            refine wpAnyH_take (i := 8) (oi := ⟨some 166, _, _, _, _, _⟩) (v := ?_) rfl (by kernel_rfl) (by kernel_rfl) (by kernel_rfl) (fun _ _ _ h => h) (Or.inl ⟨by kernel_rfl, ?_⟩) (by assumption) ?_
            rotate_left
            · (intro w hSw; (try dsimp only at hSw); go_simp; (first | done | with_reducible rfl))
            (try simp only [Act.put, List.setIfInBounds_toArray, List.set_cons_zero, List.set_cons_succ])
            refine wpAnyH_take (i := 9) (oi := ⟨some 167, _, _, _, _, _⟩) (v := ?_) rfl (by kernel_rfl) (by kernel_rfl) (by kernel_rfl) (fun _ _ _ h => h) (Or.inl ⟨by kernel_rfl, ?_⟩) (by assumption) ?_
            rotate_left
            · (intro w hSw; (try dsimp only at hSw); go_simp; (first | done | with_reducible rfl))
            (try simp only [Act.put, List.setIfInBounds_toArray, List.set_cons_zero, List.set_cons_succ])
            refine wpAnyH_take (i := 10) (oi := ⟨some 168, _, _, _, _, _⟩) (v := ?_) rfl (by kernel_rfl) (by kernel_rfl) (by kernel_rfl) (fun _ _ _ h => h) (Or.inl ⟨by kernel_rfl, ?_⟩) (by assumption) ?_
            rotate_left
            · (intro w hSw; (try dsimp only at hSw); go_simp; (first | done | with_reducible rfl))
            (try simp only [Act.put, List.setIfInBounds_toArray, List.set_cons_zero, List.set_cons_succ])
            refine wpAnyH_ready (rs := [11]) (by kernel_rfl) (by simp) ?_
            refine AllReadyH.cons (o := ⟨some 169, _, _, _, _, _⟩) rfl (fun K hK => ?_) AllReadyH.nil
            go_simp
            refine (HCM.out _ (by first | exact Chg.refl _ _ | exact (Chg.refl _ _).drew)).mono ?_
            rintro e w2 ⟨⟨ci, rfl⟩, hb2'⟩
            have hb2 : Below wr.heap.size wr w2 := by first | exact hb2' | exact ((Below.refl _ wr).drew).trans hb2'
            have HP2 := Lib.hid (HKE.out w2 hb2)
            obtain ⟨cb, hcb⟩ : ∃ cb : Bool, decide (ci < 0) = cb := ⟨_, rfl⟩
            have u0 := (hb2.cell (p := ⟨g, pc * 2, none⟩) hgl).trans x0
            have u1 := (hb2.cell (p := ⟨g, pc * 2 + 1, none⟩) hgl).trans x1
            have u2 := (hb2.cell (p := ⟨g, h * 2, none⟩) hgl).trans y0
            have u3 := (hb2.cell (p := ⟨g, h * 2 + 1, none⟩) hgl).trans y1
            clear hb2' hb2
            refine hK.out _ _ ?_ (fun hHeld1 => ?_)
            · (try dsimp only)
              first | exact ⟨x0, x1, y0, y1⟩ | exact ⟨u0, u1, u2, u3⟩
            clear hK K hHeld0
            (try simp only [Act.put, List.setIfInBounds_toArray, List.set_cons_zero, List.set_cons_succ])
            refine wpAnyH_take (i := 12) (oi := ⟨some 170, _, _, _, _, _⟩) (v := ?_) rfl (by kernel_rfl) (by kernel_rfl) (by kernel_rfl) (fun _ _ _ h => h) (Or.inl ⟨by kernel_rfl, ?_⟩) (by assumption) ?_
            rotate_left
            · (intro w hSw; (try dsimp only at hSw); go_simp; (first | done | with_reducible rfl))
            (try simp only [Act.put, List.setIfInBounds_toArray, List.set_cons_zero, List.set_cons_succ])
            refine wpAnyH_take (i := 13) (oi := ⟨some 171, _, _, _, _, _⟩) (v := ?_) rfl (by kernel_rfl) (by kernel_rfl) (by kernel_rfl) (fun _ _ _ h => h) (Or.inl ⟨by kernel_rfl, ?_⟩) (by assumption) ?_
            rotate_left
            · (intro w hSw; (try dsimp only at hSw); go_simp; (first | done | with_reducible rfl))
            (try simp only [Act.put, List.setIfInBounds_toArray, List.set_cons_zero, List.set_cons_succ])
            refine wpAnyH_done (by kernel_rfl) ?_ _
            clear u0 u1 u2 u3 x0 x1 y0 y1
            cases cb with
            | true =>
              go_wp2_with fail
              go_roundg (h - s)
              case measure => omega
              case rel => exact ⟨s, h, by omega, by omega, by omega, by omega, by omega, by go_num, by go_num, HP2⟩
            | false =>
              go_wp2_with fail
              go_roundg (r - (h + 1))
              case measure => omega
              case rel => exact ⟨h + 1, r, by omega, by omega, by omega, by omega, by omega, by go_num, by go_num, HP2⟩
          · obtain rfl : s = r := by omega
            have HP9 := Lib.hid HR.out.pst
            clear HR
            go_wp2_with (first
              | (go_at_call 82; refine (HROT.out _ HP9.out s m (mid + m - s) _ _ _ (by omega) (by omega) (by omega) (by omega) (by omega) (by omega)).mono ?_; rintro e w2 ⟨rfl, h2⟩; have HP9 := Lib.hid h2; clear h2)
              | (go_at_call 68; refine (HSYM.out _ HP9.out a s mid _ _ _ (by omega) (by omega) (by omega) (by omega) (by omega) (by omega) (by omega)).mono ?_; rintro e w2 ⟨rfl, h2⟩; have HP9 := Lib.hid h2; clear h2)
              | (go_at_call 68; refine (HSYM.out _ HP9.out mid (mid + m - s) b _ _ _ (by omega) (by omega) (by omega) (by omega) (by omega) (by omega) (by omega)).mono ?_; rintro e w2 ⟨rfl, h2⟩; have HP9 := Lib.hid h2; clear h2))
            all_goals (
              go_end0
              exact ⟨rfl, HP9.out⟩)
      · go_wp2_with fail
        go_loopg [20, 21] (m - a) (fun q sv rv wr => ∃ s r : Nat, r - s = q ∧ mid + m ≤ b + s ∧ s ≤ r ∧ r ≤ b ∧ r ≤ mid + m ∧ sv = .int .i64 (s : Int) ∧ rv = .int .i64 (r : Int) ∧ Hid (Same w g l t wr))
        case atStart => exact ⟨a, m, by omega, by omega, by omega, by omega, by omega, by go_num, by go_num, HR0⟩
        case round =>
          obtain ⟨s, r, hq, hs1, hsr, hrb, hrm, rfl, rfl, HR⟩ := hrel
          by_cases hlt : s < r
          · go_wp2_with fail
            obtain ⟨h, hh⟩ : ∃ h : Nat, ((s : Int) + (r : Int)) / 2 = (h : Int) := ⟨((s + r) / 2 : Nat), by omega⟩
            have hih : s ≤ h := by omega
            have hhj : h < r := by omega
            have d1 : 0 ≤ (h : Int) ∧ (h : Int) < (n : Int) := by omega
            have d3 : IntKind.i64.wrap (h : Int) = (h : Int) := wrap_i64n (by omega) (by omega)
            rw [hh]
            clear hh
            obtain ⟨pc, hpc⟩ : ∃ pc : Nat, pc = mid + m - 1 - h := ⟨_, rfl⟩
            have d5 : IntKind.i64.wrap ((mid : Int) + (m : Int) - 1 - (h : Int)) = (pc : Int) := by
              have e : (mid : Int) + (m : Int) - 1 - (h : Int) = (pc : Int) := by omega
              rw [e]; exact wrap_i64n (by omega) (by omega)
            have d6 : 0 ≤ (pc : Int) ∧ (pc : Int) < (n : Int) := by omega
            have hpn : pc < n := by omega
            clear hpc
            have hRF := HR.out.1
            have hRC := HR.out.2
            obtain ⟨x, hx⟩ : ∃ x, l[pc]? = some x := ⟨_, List.getElem?_eq_getElem (by rw [HL.out]; omega)⟩
            obtain ⟨y, hy⟩ : ∃ y, l[h]? = some y := ⟨_, List.getElem?_eq_getElem (by rw [HL.out]; omega)⟩
            obtain ⟨x0, x1⟩ := hRF.cell hx
            obtain ⟨y0, y1⟩ := hRF.cell hy
            have hcm := fun W (hW : Chg wr W (fun _ => False)) => HC.out W (hRC.trans hW (fun _ _ h => h.elim)) x (List.mem_of_getElem? hx) y (List.mem_of_getElem? hy)
            have hke : ∀ W, Below wr.heap.size wr W → Same w g l t W := fun W hb => HR.out.later hb
            obtain ⟨gx, hgx⟩ : ∃ gx : ByteArray, ⟨x.2.toArray⟩ = gx := ⟨_, rfl⟩
            obtain ⟨gy, hgy⟩ : ∃ gy : ByteArray, ⟨y.2.toArray⟩ = gy := ⟨_, rfl⟩
            obtain ⟨nx, hnx⟩ : ∃ nx, x.1 = nx := ⟨_, rfl⟩
            obtain ⟨ny, hny⟩ : ∃ ny, y.1 = ny := ⟨_, rfl⟩
            rw [hgx] at x1
            rw [hgy] at y1
            rw [hnx] at x0
            rw [hny] at y0
            simp only [hgx, hgy, hnx, hny] at hcm
            have HCM := Lib.hid hcm
            have HKE := Lib.hid hke
            have hgl : g < wr.heap.size := Holds.lt hRF
            clear hRF hRC hx hy hcm hke hgx hgy hnx hny
            refine wp_region_held_drew (S := (fun w' => w'.cell? ⟨g, pc * 2, none⟩ = some (.string nx) ∧ w'.cell? ⟨g, pc * 2 + 1, none⟩ = some (.string gx) ∧ w'.cell? ⟨g, h * 2, none⟩ = some (.string ny) ∧ w'.cell? ⟨g, h * 2 + 1, none⟩ = some (.string gy))) (by kernel_rfl) ?_ (fun hHeld0 => ?_)
            · (try dsimp only)
              first | exact ⟨x0, x1, y0, y1⟩ | exact ⟨u0, u1, u2, u3⟩
            refine wpAnyH_take (i := 0) (oi := ⟨some 158, _, _, _, _, _⟩) (v := ?_) rfl (by kernel_rfl) (by kernel_rfl) (by kernel_rfl) (fun _ _ _ h => h) (Or.inl ⟨by kernel_rfl, ?_⟩) (by assumption) ?_
            rotate_left
            · (intro w hSw; (try dsimp only at hSw); go_simp; (first | done | with_reducible rfl))
            (try simp only [Act.put, List.setIfInBounds_toArray, List.set_cons_zero, List.set_cons_succ])
            refine wpAnyH_take (i := 1) (oi := ⟨some 159, _, _, _, _, _⟩) (v := ?_) rfl (by kernel_rfl) (by kernel_rfl) (by kernel_rfl) (fun _ _ _ h => h) (Or.inl ⟨by kernel_rfl, ?_⟩) (by assumption) ?_
            rotate_left
            · (intro w hSw; (try dsimp only at hSw); go_simp; (first | done | with_reducible rfl))
            (try simp only [Act.put, List.setIfInBounds_toArray, List.set_cons_zero, List.set_cons_succ])
            refine wpAnyH_take (i := 2) (oi := ⟨some 160, _, _, _, _, _⟩) (v := ?_) rfl (by kernel_rfl) (by kernel_rfl) (by kernel_rfl) (fun _ _ _ h => h) (Or.inl ⟨by kernel_rfl, ?_⟩) (by assumption) ?_
            rotate_left
            · (intro w hSw; (try dsimp only at hSw); go_simp; (first | done | with_reducible rfl))
            (try simp only [Act.put, List.setIfInBounds_toArray, List.set_cons_zero, List.set_cons_succ])
            refine wpAnyH_take (i := 3) (oi := ⟨some 161, _, _, _, _, _⟩) (v := ?_) rfl (by kernel_rfl) (by kernel_rfl) (by kernel_rfl) (fun _ _ _ h => h) (Or.inl ⟨by kernel_rfl, ?_⟩) (by assumption) ?_
            rotate_left
            · (intro w hSw; (try dsimp only at hSw); go_simp; (first | done | with_reducible rfl))
            (try simp only [Act.put, List.setIfInBounds_toArray, List.set_cons_zero, List.set_cons_succ])
            refine wpAnyH_take (i := 4) (oi := ⟨some 162, _, _, _, _, _⟩) (v := ?_) rfl (by kernel_rfl) (by kernel_rfl) (by kernel_rfl) (fun _ _ _ h => h) (Or.inl ⟨by kernel_rfl, ?_⟩) (by assumption) ?_
            rotate_left
            · (intro w hSw; (try dsimp only at hSw); go_simp; (first | done | with_reducible rfl))
            (try simp only [Act.put, List.setIfInBounds_toArray, List.set_cons_zero, List.set_cons_succ])
            refine wpAnyH_take (i := 5) (oi := ⟨some 163, _, _, _, _, _⟩) (v := ?_) rfl (by kernel_rfl) (by kernel_rfl) (by kernel_rfl) (fun _ _ _ h => h) (Or.inl ⟨by kernel_rfl, ?_⟩) (by assumption) ?_
            rotate_left
            · (intro w hSw; (try dsimp only at hSw); go_simp; (first | done | with_reducible rfl))
            (try simp only [Act.put, List.setIfInBounds_toArray, List.set_cons_zero, List.set_cons_succ])
            refine wpAnyH_take (i := 6) (oi := ⟨some 164, _, _, _, _, _⟩) (v := ?_) rfl (by kernel_rfl) (by kernel_rfl) (by kernel_rfl) (fun _ _ _ h => h) (Or.inl ⟨by kernel_rfl, ?_⟩) (by assumption) ?_
            rotate_left
            · (intro w hSw; (try dsimp only at hSw); go_simp; (first | done | with_reducible rfl))
            (try simp only [Act.put, List.setIfInBounds_toArray, List.set_cons_zero, List.set_cons_succ])
            refine wpAnyH_take (i := 7) (oi := ⟨some 165, _, _, _, _, _⟩) (v := ?_) rfl (by kernel_rfl) (by kernel_rfl) (by kernel_rfl) (fun _ _ _ h => h) (Or.inl ⟨by kernel_rfl, ?_⟩) (by assumption) ?_
            rotate_left
            · (intro w hSw; (try dsimp only at hSw); go_simp; (first | done | with_reducible rfl))
            (try simp only [Act.put, List.setIfInBounds_toArray, List.set_cons_zero, List.set_cons_succ])
            refine wpAnyH_take (i := 8) (oi := ⟨some 166, _, _, _, _, _⟩) (v := ?_) rfl (by kernel_rfl) (by kernel_rfl) (by kernel_rfl) (fun _ _ _ h => h) (Or.inl ⟨by kernel_rfl, ?_⟩) (by assumption) ?_
            rotate_left
            · (intro w hSw; (try dsimp only at hSw); go_simp; (first | done | with_reducible rfl))
            (try simp only [Act.put, List.setIfInBounds_toArray, List.set_cons_zero, List.set_cons_succ])
            refine wpAnyH_take (i := 9) (oi := ⟨some 167, _, _, _, _, _⟩) (v := ?_) rfl (by kernel_rfl) (by kernel_rfl) (by kernel_rfl) (fun _ _ _ h => h) (Or.inl ⟨by kernel_rfl, ?_⟩) (by assumption) ?_
            rotate_left
            · (intro w hSw; (try dsimp only at hSw); go_simp; (first | done | with_reducible rfl))
            (try simp only [Act.put, List.setIfInBounds_toArray, List.set_cons_zero, List.set_cons_succ])
            refine wpAnyH_take (i := 10) (oi := ⟨some 168, _, _, _, _, _⟩) (v := ?_) rfl (by kernel_rfl) (by kernel_rfl) (by kernel_rfl) (fun _ _ _ h => h) (Or.inl ⟨by kernel_rfl, ?_⟩) (by assumption) ?_
            rotate_left
            · (intro w hSw; (try dsimp only at hSw); go_simp; (first | done | with_reducible rfl))
            (try simp only [Act.put, List.setIfInBounds_toArray, List.set_cons_zero, List.set_cons_succ])
            refine wpAnyH_ready (rs := [11]) (by kernel_rfl) (by simp) ?_
            refine AllReadyH.cons (o := ⟨some 169, _, _, _, _, _⟩) rfl (fun K hK => ?_) AllReadyH.nil
            go_simp
            refine (HCM.out _ (by first | exact Chg.refl _ _ | exact (Chg.refl _ _).drew)).mono ?_
            rintro e w2 ⟨⟨ci, rfl⟩, hb2'⟩
            have hb2 : Below wr.heap.size wr w2 := by first | exact hb2' | exact ((Below.refl _ wr).drew).trans hb2'
            have HP2 := Lib.hid (HKE.out w2 hb2)
            obtain ⟨cb, hcb⟩ : ∃ cb : Bool, decide (ci < 0) = cb := ⟨_, rfl⟩
            have u0 := (hb2.cell (p := ⟨g, pc * 2, none⟩) hgl).trans x0
            have u1 := (hb2.cell (p := ⟨g, pc * 2 + 1, none⟩) hgl).trans x1
            have u2 := (hb2.cell (p := ⟨g, h * 2, none⟩) hgl).trans y0
            have u3 := (hb2.cell (p := ⟨g, h * 2 + 1, none⟩) hgl).trans y1
            clear hb2' hb2
            refine hK.out _ _ ?_ (fun hHeld1 => ?_)
            · (try dsimp only)
              first | exact ⟨x0, x1, y0, y1⟩ | exact ⟨u0, u1, u2, u3⟩
            clear hK K hHeld0
            (try simp only [Act.put, List.setIfInBounds_toArray, List.set_cons_zero, List.set_cons_succ])
            refine wpAnyH_take (i := 12) (oi := ⟨some 170, _, _, _, _, _⟩) (v := ?_) rfl (by kernel_rfl) (by kernel_rfl) (by kernel_rfl) (fun _ _ _ h => h) (Or.inl ⟨by kernel_rfl, ?_⟩) (by assumption) ?_
            rotate_left
            · (intro w hSw; (try dsimp only at hSw); go_simp; (first | done | with_reducible rfl))
            (try simp only [Act.put, List.setIfInBounds_toArray, List.set_cons_zero, List.set_cons_succ])
            refine wpAnyH_take (i := 13) (oi := ⟨some 171, _, _, _, _, _⟩) (v := ?_) rfl (by kernel_rfl) (by kernel_rfl) (by kernel_rfl) (fun _ _ _ h => h) (Or.inl ⟨by kernel_rfl, ?_⟩) (by assumption) ?_
            rotate_left
            · (intro w hSw; (try dsimp only at hSw); go_simp; (first | done | with_reducible rfl))
            (try simp only [Act.put, List.setIfInBounds_toArray, List.set_cons_zero, List.set_cons_succ])
            refine wpAnyH_done (by kernel_rfl) ?_ _
            clear u0 u1 u2 u3 x0 x1 y0 y1
            cases cb with
            | true =>
              go_wp2_with fail
              go_roundg (h - s)
              case measure => omega
              case rel => exact ⟨s, h, by omega, by omega, by omega, by omega, by omega, by go_num, by go_num, HP2⟩
            | false =>
              go_wp2_with fail
              go_roundg (r - (h + 1))
              case measure => omega
              case rel => exact ⟨h + 1, r, by omega, by omega, by omega, by omega, by omega, by go_num, by go_num, HP2⟩
          · obtain rfl : s = r := by omega
            have HP9 := Lib.hid HR.out.pst
            clear HR
            go_wp2_with (first
              | (go_at_call 82; refine (HROT.out _ HP9.out s m (mid + m - s) _ _ _ (by omega) (by omega) (by omega) (by omega) (by omega) (by omega)).mono ?_; rintro e w2 ⟨rfl, h2⟩; have HP9 := Lib.hid h2; clear h2)
              | (go_at_call 68; refine (HSYM.out _ HP9.out a s mid _ _ _ (by omega) (by omega) (by omega) (by omega) (by omega) (by omega) (by omega)).mono ?_; rintro e w2 ⟨rfl, h2⟩; have HP9 := Lib.hid h2; clear h2)
              | (go_at_call 68; refine (HSYM.out _ HP9.out mid (mid + m - s) b _ _ _ (by omega) (by omega) (by omega) (by omega) (by omega) (by omega) (by omega)).mono ?_; rintro e w2 ⟨rfl, h2⟩; have HP9 := Lib.hid h2; clear h2))
            all_goals (
              go_end0
              exact ⟨rfl, HP9.out⟩)
theorem symMerge_all : ∀ N, SymOk N := fun N => by
  induction N using Nat.strongRecOn with
  | _ N ih => exact symMerge_step ih
end Go.Proofs.YtmldpehkacemfaaGreatDoor
namespace Go.Proofs.YtmldpehkacemfaaGreatDoor
open Go.RowKit Go.Bd
set_option maxRecDepth 100000 in
set_option maxHeartbeats 4000000 in
theorem stable_any {w : World} {g c : Nat} {l : List (ByteArray × Bs)} {t : List Value} (hF : FRow w g l t) (hl : l.length ≤ 1000000) (hc : l.length ≤ c) {gb : Nat} (hcmp : CmpOk w g gb l) :
    Calls Tryz.prog 45 #[.slice (some ⟨g, 0, none⟩) l.length c, .int .i64 (l.length : Int), .func (.func 25) #[] #[.pointer (some ⟨gb, 0, none⟩)]] w fun e w' => e = .returned (.tuple #[]) ∧ PSt w g l t w' := by
  obtain ⟨n, hn⟩ : ∃ n, l.length = n := ⟨_, rfl⟩
  have HINS : Hid (∀ W, PSt w g l t W → ∀ (x y : Nat) (xi yi : Int), x ≤ n → y ≤ n → xi = (x : Int) → yi = (y : Int) → Calls Tryz.prog 67 #[.slice (some ⟨g, 0, none⟩) n c, .int .i64 xi, .int .i64 yi, .func (.func 25) #[] #[.pointer (some ⟨gb, 0, none⟩)]] W fun e w' => e = .returned (.tuple #[]) ∧ PSt w g l t w') := Lib.hid (by
    rintro W ⟨l', hp, hF', hch⟩ x y xi yi hx hy rfl rfl
    have e := hp.length_eq
    have := insertion_any hF' (by omega) (by omega) (c := c) (hcmp.next hp hch) x y (by omega) (by omega)
    rw [e, hn] at this
    refine this.mono ?_
    rintro e w' ⟨rfl, h⟩
    exact ⟨rfl, h.then_ hp hch⟩)
  have HSYM : Hid (∀ W, PSt w g l t W → ∀ (x y z : Nat) (xi yi zi : Int), x < y → y < z → z ≤ n → xi = (x : Int) → yi = (y : Int) → zi = (z : Int) → Calls Tryz.prog 68 #[.slice (some ⟨g, 0, none⟩) n c, .int .i64 xi, .int .i64 yi, .int .i64 zi, .func (.func 25) #[] #[.pointer (some ⟨gb, 0, none⟩)]] W fun e w' => e = .returned (.tuple #[]) ∧ PSt w g l t w') := Lib.hid (by
    rintro W ⟨l', hp, hF', hch⟩ x y z xi yi zi hx hy hz rfl rfl rfl
    have e := hp.length_eq
    have := symMerge_all (z - x) W g c l' t gb hF' (by omega) (by omega) (hcmp.next hp hch) x y z hx hy (by omega) (Nat.le_refl _)
    rw [e, hn] at this
    refine this.mono ?_
    rintro e w' ⟨rfl, h⟩
    exact ⟨rfl, h.then_ hp hch⟩)
  have HP := Lib.hid (PSt.refl hF)
  rw [hn] at hl hc ⊢
  clear hF hcmp hn
  go_enter Tryz.func45, Tryz.ntmps45
  go_wp2_with fail
  go_loopg [7, 8] n (fun q av bv wr => ∃ a : Nat, n - a = q ∧ a ≤ n ∧ av = .int .i64 (a : Int) ∧ bv = .int .i64 ((a : Int) + 20) ∧ Hid (PSt w g l t wr))
  case atStart => exact ⟨0, by omega, by omega, rfl, by go_num, HP⟩
  case round =>
    obtain ⟨a, hq, ha, rfl, rfl, HR⟩ := hrel
    by_cases hlt : a + 20 ≤ n
    · go_wp2_with (go_at_call 67; refine (HINS.out _ HR.out a (a + 20) _ _ (by omega) (by omega) rfl (by omega)).mono ?_; rintro e w2 ⟨rfl, h2⟩; have H2 := Lib.hid h2; clear h2)
      go_roundg (n - (a + 20))
      case measure => omega
      case rel => exact ⟨a + 20, by omega, by omega, by go_num, by go_num, H2⟩
    · obtain ⟨wO, hwO⟩ : ∃ x, x = wr := ⟨_, rfl⟩
      subst hwO
      go_wp2_with (go_at_call 67; refine (HINS.out _ HR.out a n _ _ (by omega) (by omega) rfl (by omega)).mono ?_; rintro e w2 ⟨rfl, h2⟩; have H2 := Lib.hid h2; clear h2)
      go_loopg [6] (n - 20) (fun q bv wr => ∃ bs : Nat, n - bs = q ∧ 20 ≤ bs ∧ bs ≤ 2 * n + 20 ∧ bv = .int .i64 (bs : Int) ∧ Hid (PSt w g l t wr))
      case atStart => exact ⟨20, by omega, by omega, by omega, rfl, H2⟩
      case round =>
        obtain ⟨bs, hq2, hb1, hb2, rfl, HR2⟩ := hrel
        by_cases hlt2 : bs < n
        · obtain ⟨q1, hq1⟩ : ∃ q1, q1 = gk := ⟨_, rfl⟩
          subst hq1
          obtain ⟨wO, hwO⟩ : ∃ x, x = wr := ⟨_, rfl⟩
          subst hwO
          go_wp2_with fail
          go_loopg [7, 8] n (fun q av bv wr => ∃ a : Nat, n - a = q ∧ a ≤ n ∧ av = .int .i64 (a : Int) ∧ bv = .int .i64 ((a : Int) + 2 * (bs : Int)) ∧ Hid (PSt w g l t wr))
          case atStart => exact ⟨0, by omega, by omega, rfl, by go_num, HR2⟩
          case round =>
            obtain ⟨a, hq3, ha, rfl, rfl, HR3⟩ := hrel
            by_cases hlt3 : a + 2 * bs ≤ n
            · have e3 : ((a : Int) + 2 * (bs : Int) ≤ (n : Int)) := by omega
              go_wp2_with (go_at_call 68; refine (HSYM.out _ HR3.out a (a + bs) (a + 2 * bs) _ _ _ (by omega) (by omega) (by omega) rfl (by omega) (by omega)).mono ?_; rintro e w2 ⟨rfl, h2⟩; have H3 := Lib.hid h2; clear h2)
              go_roundg (n - (a + 2 * bs))
              case measure => omega
              case rel => exact ⟨a + 2 * bs, by omega, by omega, by go_num, by go_num, H3⟩
            · have e3 : ¬ ((a : Int) + 2 * (bs : Int) ≤ (n : Int)) := by omega
              by_cases hm : a + bs < n
              · go_wp2_with (go_at_call 68; refine (HSYM.out _ HR3.out a (a + bs) n _ _ _ (by omega) (by omega) (by omega) rfl (by omega) (by omega)).mono ?_; rintro e w2 ⟨rfl, h2⟩; have H3 := Lib.hid h2; clear h2)
                go_roundg (n - 2 * bs)
                case measure => omega
                case rel => exact ⟨2 * bs, by omega, by omega, by omega, by go_num, H3⟩
              · go_wp2_with fail
                go_roundg (n - 2 * bs)
                case measure => omega
                case rel => exact ⟨2 * bs, by omega, by omega, by omega, by go_num, HR3⟩
        · go_wp2_with fail
          go_end0
          exact ⟨rfl, HR2.out⟩
theorem sort_any {w : World} {g c : Nat} {l : List (ByteArray × Bs)} {t : List Value} (hF : FRow w g l t) (hl : l.length ≤ 1000000) (hc : l.length ≤ c) {gb : Nat} (hcmp : CmpOk w g gb l) :
    Calls Tryz.prog 24 #[.slice (some ⟨g, 0, none⟩) l.length c, .func (.func 25) #[] #[.pointer (some ⟨gb, 0, none⟩)]] w fun e w' => e = .returned (.tuple #[]) ∧ PSt w g l t w' := by
  have h := stable_any hF hl hc hcmp
  clear hcmp
  go_enter Tryz.func24, Tryz.ntmps24
  go_wp2_with (go_at_call 45; refine h.mono ?_; rintro e w2 ⟨rfl, h2⟩; have H3 := Lib.hid h2; clear h2)
  go_end0
  exact ⟨rfl, H3.out⟩
set_option maxRecDepth 100000 in
theorem insertion_none (A : Option Addr) (c : Nat) (f : Value) (w : World) : Calls Tryz.prog 67 #[.slice A 0 c, .int .i64 0, .int .i64 0, f] w fun e w' => e = .returned (.tuple #[]) ∧ w = w' := by
  go_enter Tryz.func67, Tryz.ntmps67
  go_wp2_with fail
  refine wp_loop_rounds 1 ?_
  rw [rounds_succ]
  go_wp2
  go_end0
  exact ⟨rfl, rfl⟩
set_option maxRecDepth 100000 in
theorem sort_none (A : Option Addr) (c : Nat) (f : Value) (w : World) : Calls Tryz.prog 24 #[.slice A 0 c, f] w fun e w' => e = .returned (.tuple #[]) ∧ w = w' := by
  have h0 : Calls Tryz.prog 45 #[.slice A 0 c, .int .i64 0, f] w fun e w' => e = .returned (.tuple #[]) ∧ w = w' := by
    have hi := insertion_none A c f w
    go_enter Tryz.func45, Tryz.ntmps45
    go_wp2_with fail
    refine wp_loop_rounds 1 ?_
    rw [rounds_succ]
    go_wp2_with (go_at_call 67; refine hi.mono ?_; rintro e w2 ⟨rfl, rfl⟩)
    refine wp_loop_rounds 1 ?_
    rw [rounds_succ]
    go_wp2
    go_end0
    exact ⟨rfl, rfl⟩
  go_enter Tryz.func24, Tryz.ntmps24
  go_wp2_with (go_at_call 45; refine h0.mono ?_; rintro e w2 ⟨rfl, rfl⟩)
  go_end0
  exact ⟨rfl, rfl⟩
end Go.Proofs.YtmldpehkacemfaaGreatDoor
namespace Go.Proofs.YtmldpehkacemfaaGreatDoor
open Go.RowKit Go.Bd
set_option maxRecDepth 100000 in
theorem grow_any {w : World} {hb bm N : Nat} {f : ByteArray → Option Int} (hH : Holds w hb 58 #[.map (some bm)]) (hI : IMap w bm N f) (s t : ByteArray) (hs : s.size ≤ 1000000000) (ht : t.size ≤ 1000000000) (hf : 0 ≤ (f s).getD 0 ∧ (f s).getD 0 ≤ 1000000000) :
    Calls Tryz.prog 23 #[.agg #[.string s, .string t], .pointer (some ⟨hb, 0, none⟩)] w fun e w' => (∃ i : Int, e = .returned (.int .i64 i)) ∧ Below w.heap.size w w' := by
  have hba := (Below.refl w.heap.size w).alloc (Nat.le_refl _) (.cells #[.string s, .string t] 50)
  have hI2 := hI.below hba
  have hH2 := holds_later hH hba
  have hlk := hI2.look (s := s) (by simp only [maxLen]; omega)
  have p0 := hH2.cell 0
  simp at p0
  obtain ⟨z, hz⟩ : ∃ z, (f s).getD 0 = z := ⟨_, rfl⟩
  rw [hz] at hlk hf
  have hts : 0 ≤ (t.size : Int) ∧ (t.size : Int) ≤ 1000000000 := by omega
  have HB := Lib.hid hba
  clear hI hI2 hH hH2 hz hba
  go_enter Tryz.func23, Tryz.ntmps23
  go_wp2_with fail
  go_ret
  exact ⟨⟨_, rfl⟩, HB.out⟩
set_option maxRecDepth 100000 in
theorem compare_any (x y : Int) (w : World) : Calls Tryz.prog 26 #[.int .i64 x, .int .i64 y] w fun e w' => (∃ i : Int, e = .returned (.int .i64 i)) ∧ w = w' := by
  have hn : ∀ (x : Int) w, Calls Tryz.prog 46 #[.int .i64 x] w fun e w' => e = .returned (.bool false) ∧ w = w' := fun x w => by
    go_enter Tryz.func46, Tryz.ntmps46
    go_wp2
    go_ret
    exact ⟨by simp, rfl⟩
  rcases Int.lt_trichotomy x y with h | h | h
  · go_enter Tryz.func26, Tryz.ntmps26
    go_wp2_with (go_at_call 46; refine (hn _ _).mono ?_; rintro e w2 ⟨rfl, rfl⟩)
    go_ret
    exact ⟨⟨_, rfl⟩, rfl⟩
  · subst h
    go_enter Tryz.func26, Tryz.ntmps26
    go_wp2_with (go_at_call 46; refine (hn _ _).mono ?_; rintro e w2 ⟨rfl, rfl⟩)
    go_ret
    exact ⟨⟨_, rfl⟩, rfl⟩
  · have h2 : ¬ x < y := by omega
    go_enter Tryz.func26, Tryz.ntmps26
    go_wp2_with (go_at_call 46; refine (hn _ _).mono ?_; rintro e w2 ⟨rfl, rfl⟩)
    go_ret
    exact ⟨⟨_, rfl⟩, rfl⟩
set_option maxRecDepth 100000 in
set_option maxHeartbeats 4000000 in
theorem cmp_any {w : World} {gb hb bm N : Nat} {f : ByteArray → Option Int} (hG : Holds w gb 65 #[.func (.func 23) #[] #[.pointer (some ⟨hb, 0, none⟩)]]) (hH : Holds w hb 58 #[.map (some bm)]) (hI : IMap w bm N f) (s t u v : ByteArray)
    (hs : s.size ≤ 1000000000 ∧ t.size ≤ 1000000000 ∧ u.size ≤ 1000000000 ∧ v.size ≤ 1000000000) (hf : ∀ s, 0 ≤ (f s).getD 0 ∧ (f s).getD 0 ≤ 1000000000) :
    Calls Tryz.prog 25 #[.agg #[.string s, .string t], .agg #[.string u, .string v], .pointer (some ⟨gb, 0, none⟩)] w fun e w' => (∃ i : Int, e = .returned (.int .i64 i)) ∧ Below w.heap.size w w' := by
  have hb1 := (Below.refl w.heap.size w).alloc (Nat.le_refl _) (.cells #[.string s, .string t] 50)
  have hb2 := hb1.alloc hb1.size (.cells #[.string u, .string v] 50)
  have hN1 := (Holds.new w 50 #[.string s, .string t]).alloc (.cells #[.string u, .string v] 50)
  have hN2 := Holds.new (w.alloc (.cells #[.string s, .string t] 50)) 50 #[.string u, .string v]
  obtain ⟨W, hW⟩ : ∃ W, (w.alloc (.cells #[.string s, .string t] 50)).alloc (.cells #[.string u, .string v] 50) = W := ⟨_, rfl⟩
  have hG2 := holds_later hG hb2
  have HGR : Hid (∀ W', Below W.heap.size W W' → ∀ s t : ByteArray, s.size ≤ 1000000000 → t.size ≤ 1000000000 → Calls Tryz.prog 23 #[.agg #[.string s, .string t], .pointer (some ⟨hb, 0, none⟩)] W' fun e w' => (∃ i : Int, e = .returned (.int .i64 i)) ∧ Below W'.heap.size W' w') := Lib.hid (fun W' hb' s t h1 h2 => by
    rw [hW] at hb2
    exact grow_any (holds_later (holds_later hH hb2) hb') ((hI.below hb2).below hb') s t h1 h2 (hf s))
  rw [hW] at hb2 hN1 hN2 hG2
  rw [World.size_alloc] at hN2
  obtain ⟨xa, hxa⟩ : ∃ xa, w.heap.size = xa := ⟨_, rfl⟩
  rw [hxa] at hN1 hN2
  have HB := Lib.hid (And.intro hb2 hxa)
  have g0 := hG2.cell 0
  have a0 := hN1.cell 0
  have a1 := hN1.cell 1
  have b0 := hN2.cell 0
  have b1 := hN2.cell 1
  simp at g0 a0 a1 b0 b1
  have hlg : gb < W.heap.size := hG2.lt
  have hla : xa < W.heap.size := hN1.lt
  have hlb : xa + 1 < W.heap.size := hN2.lt
  have HS := Lib.hid hs
  clear hb1 hb2 hN1 hN2 hG hH hI hf hG2 hs
  go_enter Tryz.func25, Tryz.ntmps25
  go_wp2_with fail
  (try rw [hW])
  (try rw [hxa])
  clear hW hxa
  obtain ⟨wv, hwv⟩ : ∃ x, x = W := ⟨_, rfl⟩
  have hA : Below W.heap.size W wv := by rw [hwv]; exact Below.refl _ _
  have hWV := Lib.hid hwv
  rw [← hwv]
  have q0 := g0
  have q1 := a0
  have q2 := a1
  have q3 := b0
  have q4 := b1
  rw [← hwv] at q0 q1 q2 q3 q4
  clear hwv
  refine wp_region_held_drew (S := (fun w' => w'.cell? ⟨gb, 0, none⟩ = some (.func (.func 23) #[] #[.pointer (some ⟨hb, 0, none⟩)]) ∧ w'.cell? ⟨xa, 0, none⟩ = some (.string s) ∧ w'.cell? ⟨xa, 1, none⟩ = some (.string t) ∧ w'.cell? ⟨xa + 1, 0, none⟩ = some (.string u) ∧ w'.cell? ⟨xa + 1, 1, none⟩ = some (.string v))) (by kernel_rfl) ?_ (fun hHeld0 => ?_)
  · (try dsimp only)
    exact ⟨q0, q1, q2, q3, q4⟩
  refine wpAnyH_take (i := 0) (oi := ⟨some 6, _, _, _, _, _⟩) (v := ?_) rfl (by kernel_rfl) (by kernel_rfl) (by kernel_rfl) (fun _ _ _ h => h) (Or.inl ⟨by kernel_rfl, ?_⟩) (by assumption) ?_
  rotate_left
  · (intro w hSw; (try dsimp only at hSw); go_simp; (first | done | with_reducible rfl))
  (try simp only [Act.put, List.setIfInBounds_toArray, List.set_cons_zero, List.set_cons_succ])
  refine wpAnyH_take (i := 1) (oi := ⟨some 7, _, _, _, _, _⟩) (v := ?_) rfl (by kernel_rfl) (by kernel_rfl) (by kernel_rfl) (fun _ _ _ h => h) (Or.inl ⟨by kernel_rfl, ?_⟩) (by assumption) ?_
  rotate_left
  · (intro w hSw; (try dsimp only at hSw); go_simp; (first | done | with_reducible rfl))
  (try simp only [Act.put, List.setIfInBounds_toArray, List.set_cons_zero, List.set_cons_succ])
  refine wpAnyH_take (i := 3) (oi := ⟨some 9, _, _, _, _, _⟩) (v := ?_) rfl (by kernel_rfl) (by kernel_rfl) (by kernel_rfl) (fun _ _ _ h => h) (Or.inl ⟨by kernel_rfl, ?_⟩) (by assumption) ?_
  rotate_left
  · (intro w hSw; (try dsimp only at hSw); go_simp; (first | done | with_reducible rfl))
  (try simp only [Act.put, List.setIfInBounds_toArray, List.set_cons_zero, List.set_cons_succ])
  refine wpAnyH_take (i := 4) (oi := ⟨some 10, _, _, _, _, _⟩) (v := ?_) rfl (by kernel_rfl) (by kernel_rfl) (by kernel_rfl) (fun _ _ _ h => h) (Or.inl ⟨by kernel_rfl, ?_⟩) (by assumption) ?_
  rotate_left
  · (intro w hSw; (try dsimp only at hSw); go_simp; (first | done | with_reducible rfl))
  (try simp only [Act.put, List.setIfInBounds_toArray, List.set_cons_zero, List.set_cons_succ])
  refine wpAnyH_ready (rs := [2]) (by kernel_rfl) (by simp) ?_
  refine AllReadyH.cons (o := ⟨some 8, _, _, _, _, _⟩) rfl (fun K hK => ?_) AllReadyH.nil
  go_simp
  first
  | refine (HGR.out _ hA s t (by have := HS.out; omega) (by have := HS.out; omega)).mono ?_
  | (replace hA := hA.drew; refine (HGR.out _ hA s t (by have := HS.out; omega) (by have := HS.out; omega)).mono ?_)
  rintro e wv ⟨⟨i1, rfl⟩, hbx⟩
  replace hA := hA.trans (hbx.mono hA.size)
  clear hbx
  replace q0 := (hA.cell (p := ⟨gb, 0, none⟩) hlg).trans g0
  replace q1 := (hA.cell (p := ⟨xa, 0, none⟩) hla).trans a0
  replace q2 := (hA.cell (p := ⟨xa, 1, none⟩) hla).trans a1
  replace q3 := (hA.cell (p := ⟨xa + 1, 0, none⟩) hlb).trans b0
  replace q4 := (hA.cell (p := ⟨xa + 1, 1, none⟩) hlb).trans b1
  refine hK.out _ _ ?_ (fun hHeld1 => ?_)
  · (try dsimp only)
    exact ⟨q0, q1, q2, q3, q4⟩
  clear hK K hHeld0
  (try simp only [Act.put, List.setIfInBounds_toArray, List.set_cons_zero, List.set_cons_succ])
  refine wpAnyH_ready (rs := [5]) (by kernel_rfl) (by simp) ?_
  refine AllReadyH.cons (o := ⟨some 11, _, _, _, _, _⟩) rfl (fun K hK => ?_) AllReadyH.nil
  go_simp
  first
  | refine (HGR.out _ hA u v (by have := HS.out; omega) (by have := HS.out; omega)).mono ?_
  | (replace hA := hA.drew; refine (HGR.out _ hA u v (by have := HS.out; omega) (by have := HS.out; omega)).mono ?_)
  rintro e wv ⟨⟨i2, rfl⟩, hbx⟩
  replace hA := hA.trans (hbx.mono hA.size)
  clear hbx
  replace q0 := (hA.cell (p := ⟨gb, 0, none⟩) hlg).trans g0
  replace q1 := (hA.cell (p := ⟨xa, 0, none⟩) hla).trans a0
  replace q2 := (hA.cell (p := ⟨xa, 1, none⟩) hla).trans a1
  replace q3 := (hA.cell (p := ⟨xa + 1, 0, none⟩) hlb).trans b0
  replace q4 := (hA.cell (p := ⟨xa + 1, 1, none⟩) hlb).trans b1
  refine hK.out _ _ ?_ (fun hHeld2 => ?_)
  · (try dsimp only)
    exact ⟨q0, q1, q2, q3, q4⟩
  clear hK K hHeld1
  (try simp only [Act.put, List.setIfInBounds_toArray, List.set_cons_zero, List.set_cons_succ])
  refine wpAnyH_ready (rs := [6]) (by kernel_rfl) (by simp) ?_
  refine AllReadyH.cons (o := ⟨some 12, _, _, _, _, _⟩) rfl (fun K hK => ?_) AllReadyH.nil
  go_simp
  refine (compare_any _ _ _).mono ?_
  rintro e wv ⟨⟨i3, rfl⟩, hwz⟩
  subst wv
  refine hK.out _ _ ?_ (fun hHeld3 => ?_)
  · (try dsimp only)
    exact ⟨q0, q1, q2, q3, q4⟩
  clear hK K hHeld2
  (try simp only [Act.put, List.setIfInBounds_toArray, List.set_cons_zero, List.set_cons_succ])
  refine wpAnyH_take (i := 7) (oi := ⟨some 5, _, _, _, _, _⟩) (v := ?_) rfl (by kernel_rfl) (by kernel_rfl) (by kernel_rfl) (fun _ _ _ h => h) (Or.inl ⟨by kernel_rfl, ?_⟩) (by assumption) ?_
  rotate_left
  · (intro w hSw; (try dsimp only at hSw); go_simp; (first | done | with_reducible rfl))
  (try simp only [Act.put, List.setIfInBounds_toArray, List.set_cons_zero, List.set_cons_succ])
  refine wpAnyH_done (by kernel_rfl) ?_ _
  go_wp2_with fail
  go_ret
  refine ⟨⟨_, rfl⟩, ?_⟩
  have hz := HB.out.1
  exact hz.trans ((by first | exact hA | exact hA.drew : Below W.heap.size W _).mono hz.size)
theorem under_texts : Tryz.prog.underlying 40 = some (.slice 9) := by kernel_rfl
theorem under_files : Tryz.prog.underlying 39 = some (.slice 50) := by kernel_rfl
set_option maxRecDepth 100000 in
set_option maxHeartbeats 2000000 in
theorem cloneT_any (l : List ByteArray) (S : Nat → Prop) (v : Value) (w : World) (hv : TextsS w S v l) (hS : ∀ k, S k → k < w.heap.size) (hl : l.length ≤ 1000000) :
    Calls Tryz.prog 21 #[v] w fun e w' => ∃ v', e = .returned v' ∧ w'.ownsRow w.heap.size 9 1 v' l.length (l.map .string) ∧ Below w.heap.size w w' := by
  obtain ⟨i0, hi, hz0, hz1, hz2⟩ := info_parts str_info
  have hne : ∀ (w : World) (a : Option Addr) (n c n' c' : Nat), (binOp .eql 40 (.slice a n c) (.slice none n' c')).run Tryz.prog w = .ok (.bool a.isNone) w := fun w a n c n' c' => Lib.run_eql_slice_nil w _ _ a n c n' c' under_texts
  obtain ⟨A, c, rfl, hc, h1⟩ := hv
  cases A with
  | none =>
    have hl0 : l = [] := by
      cases l with
      | nil => rfl
      | cons a l => obtain ⟨b, off, h2, _⟩ := h1 0 a rfl; cases h2
    subst hl0
    clear h1
    go_enter Tryz.func21, Tryz.ntmps21
    go_wp2
    go_ret
    exact ⟨_, rfl, World.ownsRow_nil _ _ _ _, Below.refl _ _⟩
  | some ad =>
    have hnews : ∀ (j : Nat) u, (l.map Value.string)[j]? = some u → (w.alloc (.cells #[] 9)).cell? (ad.add j) = some u := fun j u hu => by
      rw [List.getElem?_map] at hu
      obtain ⟨s, hs, rfl⟩ := Option.map_eq_some_iff.1 hu
      obtain ⟨b, off, h2, h3, h4⟩ := h1 j s hs
      injection h2 with h2
      subst h2
      rw [Addr.add_lit]
      exact ((Below.refl w.heap.size w).alloc (Nat.le_refl _) _).cell (p := ⟨b, off + j, none⟩) (hS b h3) |>.trans h4
    have HN := Lib.hid hnews
    clear h1 hnews
    obtain ⟨n, hn⟩ : ∃ n, l.length = n := ⟨_, rfl⟩
    rw [hn] at hl hc ⊢
    have HL := Lib.hid hn
    clear hn
    go_enter Tryz.func21, Tryz.ntmps21
    go_wp2_with (at_builtin; refine wpList_append_own _ rfl _ _ 40 rfl w.heap.size 9 i0 _ 1 16 under_texts hi hz0 hz1 hz2 rfl (by decide) _ _ _ rfl (World.ownsRow_made w #[] 0 (Nat.le_refl _) (Nat.zero_le _) (by simp)) ad n c (l.map .string) rfl (by rw [List.length_map, HL.out]; omega) HN.out (fun u hu => by obtain ⟨s, _, rfl⟩ := List.mem_map.1 hu; rfl) (by simp only [maxLen]; omega) (by omega) (by simp) ?_)
    intro v' w1 ho hg hnn
    go_wp2
    go_ret
    refine ⟨_, rfl, ?_, ((Below.refl _ w).alloc (Nat.le_refl _) _).grown hg (by simp) (fun k e => by cases e; exact Nat.le_refl _)⟩
    simpa using ho
set_option maxRecDepth 100000 in
set_option maxHeartbeats 2000000 in
theorem cloneF_any (l : List (ByteArray × Bs)) (S : Nat → Prop) (v : Value) (w : World) (hv : FilesS w S v l) (hS : ∀ k, S k → k < w.heap.size) (hl : l.length ≤ 1000000) :
    Calls Tryz.prog 22 #[v] w fun e w' => ∃ v', e = .returned v' ∧ w'.ownsRow w.heap.size 50 2 v' l.length (rowFl l) ∧ Below w.heap.size w w' := by
  obtain ⟨i0, hi, hz0, hz1, hz2⟩ := info_parts file_info
  have hne : ∀ (w : World) (a : Option Addr) (n c n' c' : Nat), (binOp .eql 39 (.slice a n c) (.slice none n' c')).run Tryz.prog w = .ok (.bool a.isNone) w := fun w a n c n' c' => Lib.run_eql_slice_nil w _ _ a n c n' c' under_files
  obtain ⟨A, c, rfl, hc, h1⟩ := hv
  cases A with
  | none =>
    have hl0 : l = [] := by
      cases l with
      | nil => rfl
      | cons a l => obtain ⟨b, off, h2, _⟩ := h1 0 a rfl; cases h2
    subst hl0
    clear h1
    go_enter Tryz.func22, Tryz.ntmps22
    go_wp2
    go_ret
    exact ⟨_, rfl, World.ownsRow_nil _ _ _ _, Below.refl _ _⟩
  | some ad =>
    have hnews : ∀ (j : Nat) u, (rowFl l)[j]? = some u → (w.alloc (.cells #[] 50)).cell? (ad.add j) = some u := fun j u hu => by
      have hj := (List.getElem?_eq_some_iff.1 hu).1
      have hll := rowFl_length l
      obtain ⟨f, hf⟩ : ∃ f, l[j / 2]? = some f := ⟨_, List.getElem?_eq_getElem (by omega)⟩
      obtain ⟨b, off, h2, h3, h4, h5⟩ := h1 (j / 2) f hf
      obtain ⟨k1, k2⟩ := rowFl_at l (j / 2) f hf
      injection h2 with h2
      subst h2
      rw [Addr.add_lit]
      rcases Nat.mod_two_eq_zero_or_one j with hm | hm
      · have e : j / 2 * 2 = j := by omega
        rw [e] at h4 k1
        rw [k1] at hu
        injection hu with hu
        subst hu
        exact ((Below.refl w.heap.size w).alloc (Nat.le_refl _) _).cell (p := ⟨b, off + j, none⟩) (hS b h3) |>.trans h4
      · have e : j / 2 * 2 + 1 = j := by omega
        rw [Nat.add_assoc, e] at h5
        rw [e] at k2
        rw [k2] at hu
        injection hu with hu
        subst hu
        exact ((Below.refl w.heap.size w).alloc (Nat.le_refl _) _).cell (p := ⟨b, off + j, none⟩) (hS b h3) |>.trans h5
    have HN := Lib.hid hnews
    clear h1 hnews
    obtain ⟨n, hn⟩ : ∃ n, l.length = n := ⟨_, rfl⟩
    rw [hn] at hl hc ⊢
    have HL := Lib.hid hn
    clear hn
    go_enter Tryz.func22, Tryz.ntmps22
    go_wp2_with (at_builtin; refine wpList_append_own _ rfl _ _ 39 rfl w.heap.size 50 i0 _ 2 32 under_files hi hz0 hz1 hz2 rfl (by decide) _ _ _ rfl (World.ownsRow_made w #[] 0 (Nat.le_refl _) (Nat.zero_le _) (by simp)) ad n c (rowFl l) rfl (by rw [rowFl_length, HL.out]) HN.out (fun u hu => by unfold rowFl at hu; obtain ⟨s, _, hs⟩ := List.mem_flatMap.1 hu; rcases List.mem_cons.1 hs with rfl | hs; rfl; rw [List.mem_singleton.1 hs]; rfl) (by simp only [maxLen]; omega) (by omega) (by simp) ?_)
    intro v' w1 ho hg hnn
    go_wp2
    go_ret
    refine ⟨_, rfl, ?_, ((Below.refl _ w).alloc (Nat.le_refl _) _).grown hg (by simp) (fun k e => by cases e; exact Nat.le_refl _)⟩
    simpa using ho
end Go.Proofs.YtmldpehkacemfaaGreatDoor
namespace Go.Proofs.YtmldpehkacemfaaGreatDoor
open Go.RowKit Go.Bd
theorem fn_info : (Tryz.prog.info? 1).map (fun i => (i.zero.map (fun z => z.cells.size), i.size, i.bytes)) = some (some 1, 1, 8) := by kernel_rfl
theorem under_fns2 : Tryz.prog.underlying 76 = some (.slice 1) := by kernel_rfl
theorem under_int : Tryz.prog.underlying 3 = some (.int .i64) := by kernel_rfl
theorem wpList_append_run {P : Program} {w w' : World} {ops : Array Oper} {rest : List Oper} {o : Oper} {a : Act} {Q : Exit → Act → World → Prop} (hgd : Region.wanted o (yielded ops a.tmps) = true) (s x : Operand) (ts : Array TypeId)
    (ho : o.op = .call { callee := .builtin .append, args := #[s, x], argTypes := ts }) (vs vx v : Value) (hs : a.eval s = vs) (hx : a.eval x = vx) (hr : (Builtin.append_ ts o.type #[vs, vx]).run P w = .ok v w') (h : wpList P ops Q rest (a.put o.dst v) w') : wpList P ops Q (o :: rest) a w := by
  refine wpList_step fun K hK => ?_
  rw [if_pos hgd]
  unfold Oper.wp execOp
  simp only [ho, resolve, invoke, builtin, Sem.run_bind, Sem.run_pure, Result.andThen_ok, List.map_toArray, List.map_cons, List.map_nil, hs, hx, hr]
  exact hK _ _ h
theorem below_setRow {B : Nat} {w w' : World} (h : Below B w w') {g : Nat} (hg : B ≤ g) (hB : B ≤ w'.heap.size) (cs : Array Value) : Below B w (w'.setRow g cs) :=
  h.grown (⟨rfl, rfl, rfl, by simp, fun k _ hk => setRow_other w' g k _ (fun e => hk (by simp [e]))⟩ : w'.grownBy (w'.setRow g cs) (some g)) hB (fun k e => by injection e with e; omega)
set_option maxRecDepth 100000 in
set_option maxHeartbeats 2000000 in
theorem insert_any {w : World} {b d : Nat} {f1 f2 f3 : Value} (h1 : f1.oneCell' = true) (h2 : f2.oneCell' = true) (h3 : f3.oneCell' = true) (c1 : w.cell? ⟨b, 0, none⟩ = some f1) (c2 : w.cell? ⟨b, 1, none⟩ = some f2) (c3 : w.cell? ⟨d, 0, none⟩ = some f3) (hb : b < w.heap.size) (hd : d < w.heap.size) :
    Calls Tryz.prog 35 #[.slice (some ⟨b, 0, none⟩) 2 2, .int .i64 0, .slice (some ⟨d, 0, none⟩) 1 1] w fun e w' => ∃ g cap, e = .returned (.slice (some ⟨g, 0, none⟩) 3 cap) ∧ 3 ≤ cap ∧ w.heap.size ≤ g ∧ w'.cell? ⟨g, 0, none⟩ = some f3 ∧ w'.cell? ⟨g, 1, none⟩ = some f1 ∧ w'.cell? ⟨g, 2, none⟩ = some f2 ∧ Below w.heap.size w w' := by
  obtain ⟨i, hi⟩ : ∃ i, Tryz.prog.info? 1 = some i := by
    cases hq : Tryz.prog.info? 1 with
    | none => have := fn_info; rw [hq] at this; cases this
    | some i => exact ⟨i, rfl⟩
  have hinf := fn_info
  rw [hi] at hinf
  simp only [Option.map_some, Option.some.injEq, Prod.mk.injEq] at hinf
  obtain ⟨hz0, hz1, hz2⟩ := hinf
  obtain ⟨z, hz⟩ : ∃ z, i.zero = some z := by
    cases hq : i.zero with
    | none => rw [hq] at hz0; cases hz0
    | some z => exact ⟨z, rfl⟩
  rw [hz] at hz0
  have hzc : z.cells.size = 1 := by simpa using hz0
  have hap := Lib.run_append_grow_zeros (P := Tryz.prog) w 76 3 76 1 i z .i64 .i64 under_fns2 under_int hi hz (some ⟨b, 0, none⟩) 0 2 [] (by rw [hz1]; rfl) 3 (by omega) (by omega) (by omega) (by omega) (by rw [hz2]; omega) (by rw [hz2]; decide)
  obtain ⟨cap, hcap⟩ : ∃ cap, grownCap w (0 + 3) 2 1 = cap := ⟨_, rfl⟩
  have hc3 : 3 ≤ cap := by rw [← hcap]; exact grownCap_ge w (0 + 3) 2 1
  rw [hcap] at hap
  obtain ⟨cur, hcur⟩ : ∃ cur, (([] : List Value).toArray ++ Builtin.zeroCells z.cells 3 ++ Builtin.zeroCells z.cells (cap - (0 + 3))) = cur := ⟨_, rfl⟩
  have hcs : cur.size = cap := by
    rw [← hcur]
    simp [Builtin.zeroCells, hzc]
    omega
  rw [hcur] at hap
  obtain ⟨W1, hW1⟩ : ∃ W1, w.drew.alloc (.cells cur 1) = W1 := ⟨_, rfl⟩
  have hB1 : Below w.heap.size w W1 := by rw [← hW1]; exact ((Below.refl _ _).drew).alloc (Nat.le_refl _) _
  have hH1 : W1.heap[w.heap.size]? = some (.cells cur 1 (0, 0)) := by rw [← hW1]; exact heap_alloc_new w.drew _
  rw [hW1] at hap
  obtain ⟨g, hg⟩ : ∃ g, w.heap.size = g := ⟨_, rfl⟩
  rw [hg] at hap hH1
  replace hap : (Builtin.append_ #[76, 3] 76 #[.slice (some ⟨b, 0, none⟩) 0 2, .int .i64 3]).run Tryz.prog w = .ok (.slice (some ⟨g, 0, none⟩) 3 cap) W1 := hap
  have hs1 : (Tryz.prog.info? 1).map (·.size) = some 1 := by rw [hi]; simp [hz1]
  have hcp1 := run_copy_row (P := Tryz.prog) W1 76 76 3 1 g 0 3 cap ⟨d, 0, none⟩ 1 1 cur 1 [f3] under_fns2 hs1 hH1 rfl (fun j v hj => by
    match j with
    | 0 => simp at hj; subst hj; rw [Addr.add_lit]; exact (hB1.cell (p := ⟨d, 0, none⟩) hd).trans c3
    | j + 1 => simp at hj) (by simp; omega) (by simp [h3])
  obtain ⟨cur2, hcur2⟩ : ∃ cur2 : Array Value, (cur.toList.take 0 ++ [f3] ++ cur.toList.drop (0 + [f3].length)).toArray = cur2 := ⟨_, rfl⟩
  rw [hcur2] at hcp1
  have hcs2 : cur2.size = cap := by rw [← hcur2]; simp [hcs]; omega
  have hH2 := setRow_heap W1 g cur cur2 1 (0, 0) hH1
  have ho2 : ∀ k, k ≠ g → (W1.setRow g cur2).heap[k]? = W1.heap[k]? := fun k hk => setRow_other W1 g k _ hk
  obtain ⟨W2, hW2⟩ : ∃ W2, W1.setRow g cur2 = W2 := ⟨_, rfl⟩
  rw [hW2] at hcp1 hH2 ho2
  have hB2 : Below g w W2 := by
    rw [← hW2, ← hg]
    rw [← hg] at hH1
    exact below_setRow hB1 (by omega) hB1.size _
  have hsrc : ∀ (W : World), W.heap = W2.heap → ∀ j v, [f1, f2][j]? = some v → W.cell? ((⟨b, 0, none⟩ : Addr).add j) = some v := fun W hW j v hj => by
    have e : ∀ k, W.cell? ⟨b, k, none⟩ = W2.cell? ⟨b, k, none⟩ := fun k => by unfold World.cell?; rw [hW]
    match j with
    | 0 => simp at hj; subst hj; rw [Addr.add_lit, e]; exact (hB2.cell (p := ⟨b, 0, none⟩) (by rw [← hg]; exact hb)).trans c1
    | 1 => simp at hj; subst hj; rw [Addr.add_lit, e]; exact (hB2.cell (p := ⟨b, 1, none⟩) (by rw [← hg]; exact hb)).trans c2
    | j + 2 => simp at hj
  obtain ⟨cur3, hcur3⟩ : ∃ cur3 : Array Value, (cur2.toList.take 1 ++ [f1, f2] ++ cur2.toList.drop (1 + [f1, f2].length)).toArray = cur3 := ⟨_, rfl⟩
  have hcp2 : ∀ W : World, W.heap = W2.heap → (Builtin.copy_ #[76, 76] 3 #[.slice (some ⟨g, 1, none⟩) 2 (cap - 1), .slice (some ⟨b, 0, none⟩) 2 2]).run Tryz.prog W = .ok (goInt 2) (W.setRow g cur3) := fun W hW => by
    have := run_copy_row (P := Tryz.prog) W 76 76 3 1 g 1 2 (cap - 1) ⟨b, 0, none⟩ 2 2 cur2 1 [f1, f2] under_fns2 hs1 (by rw [hW]; exact hH2) rfl (hsrc W hW) (by simp; omega) (by simp [h1, h2])
    rw [hcur3] at this
    exact this
  have hfin : ∀ W : World, W.heap = W2.heap → Below g w W → (W.setRow g cur3).cell? ⟨g, 0, none⟩ = some f3 ∧ (W.setRow g cur3).cell? ⟨g, 1, none⟩ = some f1 ∧ (W.setRow g cur3).cell? ⟨g, 2, none⟩ = some f2 ∧ Below g w (W.setRow g cur3) := fun W hW hB => by
    have hH3 := setRow_heap W g cur2 cur3 1 (0, 0) (by rw [hW]; exact hH2)
    have hc : ∀ j, (W.setRow g cur3).cell? ⟨g, j, none⟩ = cur3[j]? := fun j => cell_of_row _ g j cur3 1 (0, 0) hH3
    rw [hc, hc, hc, ← hcur3, ← hcur2]
    refine ⟨by simp, by simp, by simp, below_setRow hB (Nat.le_refl _) (by have := hB.size; omega) _⟩
  have hq1 := hcp2 W2 rfl
  have hq2 := hcp2 W2.drew rfl
  have HF := Lib.hid (And.intro hfin (And.intro hB2 (And.intro hc3 hg)))
  have hcn : ¬ cap = 1 := by omega
  clear hfin hB2 hcp2 hsrc hcur3 hcur2 hcur hcap hB1 hH1 hH2 ho2 hW2 c1 c2 c3 hz hi
  go_enter Tryz.func35, Tryz.ntmps35
  go_wp2_with (at_builtin; refine wpList_append_run rfl _ _ #[76, 3] rfl _ _ _ rfl rfl hap ?_)
  go_region
  all_goals (
    go_wp2_with fail
    go_ret
    obtain ⟨k0, k1, k2, k3⟩ := (by first | exact HF.out.1 W2 rfl HF.out.2.1 | exact HF.out.1 W2 rfl HF.out.2.1)
    refine ⟨g, cap, rfl, HF.out.2.2.1, by rw [HF.out.2.2.2]; exact Nat.le_refl _, ?_⟩
    have e := HF.out.2.2.2
    first
    | exact ⟨k0, k1, k2, e ▸ k3⟩
    | (obtain ⟨k0, k1, k2, k3⟩ := HF.out.1 W2.drew rfl HF.out.2.1.drew; exact ⟨k0, k1, k2, e ▸ k3⟩)
    | exact ⟨k0, k1, k2, e ▸ k3.drew⟩)
end Go.Proofs.YtmldpehkacemfaaGreatDoor
namespace Go.Proofs.YtmldpehkacemfaaGreatDoor
open Go.RowKit Go.Bd
set_option maxRecDepth 100000 in
set_option maxHeartbeats 2000000 in
theorem step3_any {w : World} {F Ro : Nat → Prop} {db size : Nat} {hist : List Raw} (h : Dk w F Ro db size hist) {x3 x7 xb n : Nat} (h3 : Holds w x3 28 #[.pointer (some ⟨db, 0, none⟩)]) (h7 : Holds w x7 32 #[.int .u64 (n : Int)]) {q : Bs} {A : Option Addr} {c : Nat} (hb : Holds w xb 69 #[.slice A q.length c]) (hA : InB w F A q) (hqc : q.length ≤ c) (hq : q.length ≤ 10000000)
    (hF : ¬ F x3 ∧ ¬ F x7 ∧ ¬ F xb) (hn : n < 98) (hh : hist.length + q.length / 512 + 5 ≤ 900000) (hsz : size ≤ 8388608) :
    Calls Tryz.prog 30 #[.pointer (some ⟨x3, 0, none⟩), .pointer (some ⟨x7, 0, none⟩), .pointer (some ⟨xb, 0, none⟩)] w fun e w' => e = .returned (.tuple #[]) ∧ DkTo w w' F Ro db size (runO size [.wr (cntN (n + 1)) q] hist) := by
  have hct := fun W => counter_any (n + 1) (by omega) W
  have hcs := cnt_size (n + 1)
  obtain ⟨sc, hsc⟩ : ∃ sc, cntN (n + 1) = sc := ⟨_, rfl⟩
  rw [hsc] at hct hcs ⊢
  have ey : (((n + 1 : Nat)) : Int) = (n : Int) + 1 := by omega
  rw [ey] at hct
  have hwp : IntKind.u64.wrap ((n : Int) + 1) = (n : Int) + 1 := wraps_u64 _ (by omega) (by omega)
  have e1 : runO size [.wr sc q] hist = hist ++ DOp.raws size (runR hist) (.wr sc q) := rfl
  rw [e1]
  have hw := fun W (hb : Below w.heap.size w W) => wr_dk (h.below hb) sc (by omega) q A c (hA.chg (Chg.below hb F)) (by omega) hqc (by omega) hsz
  have p3 := h3.cell 0
  have p7 := h7.cell 0
  have pb := hb.cell 0
  simp at p3 p7 pb
  have HKP : Hid (∀ W hist', DkTo w W F Ro db size hist' → W.cell? ⟨x3, 0, none⟩ = some (.pointer (some ⟨db, 0, none⟩)) ∧ W.cell? ⟨x7, 0, none⟩ = some (.int .u64 (n : Int)) ∧ W.cell? ⟨xb, 0, none⟩ = some (.slice A q.length c)) := Lib.hid (fun W hist' hd => ⟨hd.chg.cell (p := ⟨x3, 0, none⟩) hF.1 p3, hd.chg.cell (p := ⟨x7, 0, none⟩) hF.2.1 p7, hd.chg.cell (p := ⟨xb, 0, none⟩) hF.2.2 pb⟩)
  have HW := Lib.hid hw
  clear h h3 h7 hb hw hsc e1 ey hA hF
  go_enter Tryz.func30, Tryz.ntmps30
  go_wp2_with fail
  refine wp_region_held_drew (S := (fun w' => w'.cell? ⟨x3, 0, none⟩ = some (.pointer (some ⟨db, 0, none⟩)) ∧ w'.cell? ⟨x7, 0, none⟩ = some (.int .u64 (n : Int)) ∧ w'.cell? ⟨xb, 0, none⟩ = some (.slice A q.length c))) (by kernel_rfl) ?_ (fun hHeld0 => ?_)
  · (try dsimp only)
    first | exact ⟨p3, p7, pb⟩ | exact hk9
  refine wpAnyH_take (i := 0) (oi := ⟨some 3, _, _, _, _, _⟩) (v := ?_) rfl (by kernel_rfl) (by kernel_rfl) (by kernel_rfl) (fun _ _ _ h => h) (Or.inl ⟨by kernel_rfl, ?_⟩) (by assumption) ?_
  rotate_left
  · (intro w hSw; (try dsimp only at hSw); go_simp; (first | done | with_reducible rfl))
  (try simp only [Act.put, List.setIfInBounds_toArray, List.set_cons_zero, List.set_cons_succ])
  refine wpAnyH_take (i := 1) (oi := ⟨some 4, _, _, _, _, _⟩) (v := ?_) rfl (by kernel_rfl) (by kernel_rfl) (by kernel_rfl) (fun _ _ _ h => h) (Or.inl ⟨by kernel_rfl, ?_⟩) (by assumption) ?_
  rotate_left
  · (intro w hSw; (try dsimp only at hSw); go_simp; (first | done | with_reducible rfl))
  (try simp only [Act.put, List.setIfInBounds_toArray, List.set_cons_zero, List.set_cons_succ])
  refine wpAnyH_take (i := 2) (oi := ⟨some 5, _, _, _, _, _⟩) (v := ?_) rfl (by kernel_rfl) (by kernel_rfl) (by kernel_rfl) (fun _ _ _ h => h) (Or.inl ⟨by kernel_rfl, ?_⟩) (by assumption) ?_
  rotate_left
  · (intro w hSw; (try dsimp only at hSw); go_simp; (first | done | with_reducible rfl))
  (try simp only [Act.put, List.setIfInBounds_toArray, List.set_cons_zero, List.set_cons_succ])
  refine wpAnyH_take (i := 4) (oi := ⟨some 7, _, _, _, _, _⟩) (v := ?_) rfl (by kernel_rfl) (by kernel_rfl) (by kernel_rfl) (fun _ _ _ h => h) (Or.inl ⟨by kernel_rfl, ?_⟩) (by assumption) ?_
  rotate_left
  · (intro w hSw; (try dsimp only at hSw); go_simp; (first | done | with_reducible rfl))
  (try simp only [Act.put, List.setIfInBounds_toArray, List.set_cons_zero, List.set_cons_succ])
  refine wpAnyH_ready (rs := [3]) (by kernel_rfl) (by simp) ?_
  refine AllReadyH.cons (o := ⟨some 6, _, _, _, _, _⟩) rfl (fun K hK => ?_) AllReadyH.nil
  go_simp
  refine (hct _).mono ?_
  rintro e wz ⟨rfl, hwz⟩
  subst wz
  refine hK.out _ _ ?_ (fun hHeld1 => ?_)
  · (try dsimp only)
    first | exact ⟨p3, p7, pb⟩ | exact hk9
  clear hK K hHeld0
  (try simp only [Act.put, List.setIfInBounds_toArray, List.set_cons_zero, List.set_cons_succ])
  refine wpAnyH_ready (rs := [5]) (by kernel_rfl) (by simp) ?_
  refine AllReadyH.cons (o := ⟨some 8, _, _, _, _, _⟩) rfl (fun K hK => ?_) AllReadyH.nil
  go_simp
  first
  | refine (HW.out _ (Below.refl _ _)).mono ?_
  | refine (HW.out _ (Below.refl _ _).drew).mono ?_
  rintro e w9 ⟨rfl, h9⟩
  have h99 : DkTo w w9 F Ro db size (hist ++ DOp.raws size (runR hist) (.wr sc q)) := by
    first
    | exact h9.first (Below.refl _ _)
    | exact h9.first (Below.refl _ _).drew
  have hk9 := HKP.out _ _ h99
  have H9 := Lib.hid h99
  clear h9 h99
  refine hK.out _ _ ?_ (fun hHeld2 => ?_)
  · (try dsimp only)
    first | exact ⟨p3, p7, pb⟩ | exact hk9
  clear hK K hHeld1
  (try simp only [Act.put, List.setIfInBounds_toArray, List.set_cons_zero, List.set_cons_succ])
  refine wpAnyH_done (by kernel_rfl) ?_ _
  clear hk9
  go_wp2_with fail
  go_end0
  exact ⟨rfl, by first | exact H9.out | exact H9.out.later (Below.refl _ _).drew⟩
set_option maxRecDepth 100000 in
set_option maxHeartbeats 2000000 in
theorem step5_any {w : World} {F Ro : Nat → Prop} {db size : Nat} {hist : List Raw} (h : Dk w F Ro db size hist) {x3 x7 n : Nat} (h3 : Holds w x3 28 #[.pointer (some ⟨db, 0, none⟩)]) (h7 : Holds w x7 32 #[.int .u64 (n : Int)])
    (hF : ¬ F x3 ∧ ¬ F x7) (hn : n < 98) (hh : hist.length + 5 ≤ 900000) (hsz : size ≤ 8388608) :
    Calls Tryz.prog 36 #[.pointer (some ⟨x3, 0, none⟩), .pointer (some ⟨x7, 0, none⟩)] w fun e w' => e = .returned (.tuple #[]) ∧ DkTo w w' F Ro db size (runO size [.wr (cntN n) []] hist) := by
  have hct := fun W => counter_any n (by omega) W
  have hcs := cnt_size n
  obtain ⟨sc, hsc⟩ : ∃ sc, cntN n = sc := ⟨_, rfl⟩
  rw [hsc] at hct hcs ⊢
  have e1 : runO size [.wr sc []] hist = hist ++ DOp.raws size (runR hist) (.wr sc []) := rfl
  rw [e1]
  have hw := fun W (hb : Below w.heap.size w W) => wr0_dk (h.below hb) sc (by omega) (by omega) hsz
  have p3 := h3.cell 0
  have p7 := h7.cell 0
  simp at p3 p7
  have HKP : Hid (∀ W hist', DkTo w W F Ro db size hist' → W.cell? ⟨x3, 0, none⟩ = some (.pointer (some ⟨db, 0, none⟩)) ∧ W.cell? ⟨x7, 0, none⟩ = some (.int .u64 (n : Int))) := Lib.hid (fun W hist' hd => ⟨hd.chg.cell (p := ⟨x3, 0, none⟩) hF.1 p3, hd.chg.cell (p := ⟨x7, 0, none⟩) hF.2 p7⟩)
  have HW := Lib.hid hw
  clear h h3 h7 hw hsc e1 hF
  go_enter Tryz.func36, Tryz.ntmps36
  go_wp2_with fail
  refine wp_region_held_drew (S := (fun w' => w'.cell? ⟨x3, 0, none⟩ = some (.pointer (some ⟨db, 0, none⟩)) ∧ w'.cell? ⟨x7, 0, none⟩ = some (.int .u64 (n : Int)))) (by kernel_rfl) ?_ (fun hHeld0 => ?_)
  · (try dsimp only)
    first | exact ⟨p3, p7⟩ | exact hk9
  refine wpAnyH_take (i := 0) (oi := ⟨some 2, _, _, _, _, _⟩) (v := ?_) rfl (by kernel_rfl) (by kernel_rfl) (by kernel_rfl) (fun _ _ _ h => h) (Or.inl ⟨by kernel_rfl, ?_⟩) (by assumption) ?_
  rotate_left
  · (intro w hSw; (try dsimp only at hSw); go_simp; (first | done | with_reducible rfl))
  (try simp only [Act.put, List.setIfInBounds_toArray, List.set_cons_zero, List.set_cons_succ])
  refine wpAnyH_take (i := 1) (oi := ⟨some 3, _, _, _, _, _⟩) (v := ?_) rfl (by kernel_rfl) (by kernel_rfl) (by kernel_rfl) (fun _ _ _ h => h) (Or.inl ⟨by kernel_rfl, ?_⟩) (by assumption) ?_
  rotate_left
  · (intro w hSw; (try dsimp only at hSw); go_simp; (first | done | with_reducible rfl))
  (try simp only [Act.put, List.setIfInBounds_toArray, List.set_cons_zero, List.set_cons_succ])
  refine wpAnyH_ready (rs := [2]) (by kernel_rfl) (by simp) ?_
  refine AllReadyH.cons (o := ⟨some 4, _, _, _, _, _⟩) rfl (fun K hK => ?_) AllReadyH.nil
  go_simp
  refine (hct _).mono ?_
  rintro e wz ⟨rfl, hwz⟩
  subst wz
  refine hK.out _ _ ?_ (fun hHeld1 => ?_)
  · (try dsimp only)
    first | exact ⟨p3, p7⟩ | exact hk9
  clear hK K hHeld0
  (try simp only [Act.put, List.setIfInBounds_toArray, List.set_cons_zero, List.set_cons_succ])
  refine wpAnyH_ready (rs := [3]) (by kernel_rfl) (by simp) ?_
  refine AllReadyH.cons (o := ⟨some 5, _, _, _, _, _⟩) rfl (fun K hK => ?_) AllReadyH.nil
  go_simp
  first
  | refine (HW.out _ (Below.refl _ _)).mono ?_
  | refine (HW.out _ (Below.refl _ _).drew).mono ?_
  rintro e w9 ⟨rfl, h9⟩
  have h99 : DkTo w w9 F Ro db size (hist ++ DOp.raws size (runR hist) (.wr sc [])) := by
    first
    | exact h9.first (Below.refl _ _)
    | exact h9.first (Below.refl _ _).drew
  have hk9 := HKP.out _ _ h99
  have H9 := Lib.hid h99
  clear h9 h99
  refine hK.out _ _ ?_ (fun hHeld2 => ?_)
  · (try dsimp only)
    first | exact ⟨p3, p7⟩ | exact hk9
  clear hK K hHeld1
  (try simp only [Act.put, List.setIfInBounds_toArray, List.set_cons_zero, List.set_cons_succ])
  refine wpAnyH_done (by kernel_rfl) ?_ _
  clear hk9
  go_wp2_with fail
  go_end0
  exact ⟨rfl, by first | exact H9.out | exact H9.out.later (Below.refl _ _).drew⟩
set_option maxRecDepth 100000 in
theorem step4_any {w : World} {F Ro : Nat → Prop} {db size : Nat} {hist : List Raw} (h : Dk w F Ro db size hist) {x3 x9 : Nat} (h3 : Holds w x3 28 #[.pointer (some ⟨db, 0, none⟩)]) (p : Plan) {rv wv : Value} (h9 : Holds w x9 64 #[rv, wv]) (hR : TextsS w (fun k => ¬ F k) rv p.rm) (hW : FilesS w (fun k => ¬ F k) wv p.wr)
    (hr : p.rm.length ≤ 10000000 ∧ ∀ s ∈ p.rm, s.size ≤ 100000000) (hw : p.wr.length ≤ 10000000 ∧ ∀ f ∈ p.wr, f.1.size ≤ 100000000 ∧ f.2.length ≤ 100000000) (hh : hist.length + costO p.ops + 2 ≤ 900000) (hsz : size ≤ 8388608) :
    Calls Tryz.prog 33 #[.pointer (some ⟨x9, 0, none⟩), .pointer (some ⟨x3, 0, none⟩)] w fun e w' => e = .returned (.tuple #[]) ∧ DkTo w w' F Ro db size (runO size p.ops hist) := by
  have hd := do_any h p rv wv hR hW hr hw hh hsz
  obtain ⟨A, c, rfl, _⟩ := hR
  obtain ⟨B, d, rfl, _⟩ := hW
  have p3 := h3.cell 0
  have q0 := h9.cell 0
  have q1 := h9.cell 1
  simp at p3 q0 q1
  have HD := Lib.hid hd
  clear hd h h3 h9 hr hw
  go_enter Tryz.func33, Tryz.ntmps33
  go_wp2_with (go_at_call 34; refine HD.out.mono ?_; rintro e w9 ⟨rfl, h9⟩; have H9 := Lib.hid h9; clear h9)
  go_end0
  exact ⟨rfl, H9.out⟩
set_option maxRecDepth 100000 in
set_option maxHeartbeats 2000000 in
theorem end_d {w : World} {F Ro : Nat → Prop} {db size : Nat} {hist : List Raw} (h : Dk w F Ro db size hist) (m : Nat) (hm : m < 98) (hh : hist.length + 10 ≤ 900000) (hsz : size ≤ 8388608) (nv : Int) (hnv : nv = (m : Int) + 1) (u : FrameMode) :
    CallsD Tryz.prog 29 #[.pointer (some ⟨db, 0, none⟩), .int .u64 nv] u w fun e u' w' => u' = u ∧ (e = .returned (.tuple #[]) ∧ DkTo w w' F Ro db size (runO size [.rm (cntN m), .wr (cntN (m + 1)) []] hist)) := by
  have c1 := fun W => counter_any m (by omega) W
  have c2 := fun W => counter_any (m + 1) (by omega) W
  have hs1 := cnt_size m
  have hs2 := cnt_size (m + 1)
  have e1 : runO size [.rm (cntN m), .wr (cntN (m + 1)) []] hist = (hist ++ DOp.raws size (runR hist) (.rm (cntN m))) ++ DOp.raws size (runR (hist ++ DOp.raws size (runR hist) (.rm (cntN m)))) (.wr (cntN (m + 1)) []) := rfl
  have e2 := raws_cost size (runR hist) (.rm (cntN m))
  rw [e1]
  obtain ⟨s1, h1⟩ : ∃ s1, cntN m = s1 := ⟨_, rfl⟩
  obtain ⟨s2, h2⟩ : ∃ s2, cntN (m + 1) = s2 := ⟨_, rfl⟩
  rw [h1] at c1 hs1 e2 ⊢
  rw [h2] at c2 hs2 ⊢
  have e3 : (DOp.rm s1).cost = 1 := rfl
  rw [e3] at e2
  have hrm := rm_dk h s1 (by omega) (by omega)
  obtain ⟨hist1, hh1⟩ : ∃ hist1, hist ++ DOp.raws size (runR hist) (.rm s1) = hist1 := ⟨_, rfl⟩
  have hl1 : hist1.length ≤ hist.length + 1 := by rw [← hh1, List.length_append]; omega
  rw [hh1] at hrm ⊢
  have ey : (((m + 1 : Nat)) : Int) = (m : Int) + 1 := by omega
  rw [ey] at c2
  subst hnv
  clear h h1 h2 hh1 e1 e2 e3 ey
  go_enter_d Tryz.func29, Tryz.ntmps29
  go_wp2_with (first
    | (go_at_call 32; refine (c1 _).mono ?_; rintro e w2 ⟨rfl, rfl⟩)
    | (go_at_call 42; refine hrm.mono ?_; rintro e w3 ⟨⟨v, rfl⟩, h3⟩; obtain ⟨F1, Ro1, hD1, hF1, hR1, hc1⟩ := h3; have hwr := wr0_dk hD1 s2 (by omega) (by omega) hsz; have HC := Lib.hid (And.intro hF1 (And.intro hR1 hc1)); clear hD1 hF1 hR1 hc1)
    | (go_at_call 32; refine (c2 _).mono ?_; rintro e w2 ⟨rfl, rfl⟩)
    | (go_at_call 31; refine hwr.mono ?_; rintro e w4 ⟨rfl, h4⟩; have HD4 := Lib.hid (h4.step HC.out.1 HC.out.2.1 HC.out.2.2); clear h4))
  go_end0
  exact ⟨rfl, HD4.out⟩
end Go.Proofs.YtmldpehkacemfaaGreatDoor
namespace Go.Proofs.YtmldpehkacemfaaGreatDoor
open Go.RowKit Go.Bd
structure Ch (w W : World) (F Ro F1 Ro1 : Nat → Prop) (db size : Nat) (hist : List Raw) (bx : List Nat) : Prop where
  dk : Dk W F1 Ro1 db size hist
  f : ∀ k, F1 k → F k ∨ w.heap.size ≤ k
  r : ∀ k, Ro1 k → Ro k ∨ w.heap.size ≤ k
  c : Chg w W F
  b : ∀ k ∈ bx, ¬ F1 k ∧ k < W.heap.size
section
variable {w W W' : World} {F Ro F1 Ro1 : Nat → Prop} {db size : Nat} {hist hist2 : List Raw} {bx : List Nat}
theorem Ch.later (h : Ch w W F Ro F1 Ro1 db size hist bx) (hb : Below W.heap.size W W') : Ch w W' F Ro F1 Ro1 db size hist bx :=
  ⟨h.dk.below hb, h.f, h.r, h.c.trans (Chg.below hb (fun _ => False)) (fun _ _ h => h.elim), fun k hk => ⟨(h.b k hk).1, Nat.lt_of_lt_of_le (h.b k hk).2 hb.size⟩⟩
theorem Ch.box (h : Ch w W F Ro F1 Ro1 db size hist bx) (o : Obj) {x : Nat} (hx : W.heap.size = x) : Ch w (W.alloc o) F Ro F1 Ro1 db size hist (x :: bx) := by
  have h1 := h.later ((Below.refl _ _).alloc (Nat.le_refl _) o)
  refine ⟨h1.dk, h1.f, h1.r, h1.c, fun k hk => ?_⟩
  rcases List.mem_cons.1 hk with rfl | hk
  · exact ⟨fun e => by have := h.dk.ltF _ e; omega, by simp; omega⟩
  · exact h1.b k hk
theorem Ch.more (h : Ch w W F Ro F1 Ro1 db size hist bx) {x : Nat} (hx : ¬ F1 x) (hl : x < W.heap.size) : Ch w W F Ro F1 Ro1 db size hist (x :: bx) := by
  refine ⟨h.dk, h.f, h.r, h.c, fun k hk => ?_⟩
  rcases List.mem_cons.1 hk with rfl | hk
  · exact ⟨hx, hl⟩
  · exact h.b k hk
theorem Ch.call (h : Ch w W F Ro F1 Ro1 db size hist bx) (hd : DkTo W W' F1 Ro1 db size hist2) : ∃ F2 Ro2, Ch w W' F Ro F2 Ro2 db size hist2 bx ∧ Chg W W' F1 ∧ ∀ k, F2 k → F1 k ∨ W.heap.size ≤ k := by
  obtain ⟨F2, Ro2, h1, h2, h3, h4⟩ := hd
  have hs := h.c.size
  have hs2 := h4.size
  refine ⟨F2, Ro2, ⟨h1, fun k hk => ?_, fun k hk => ?_, h.c.trans h4 (fun k hk e => (h.f k e).elim id (fun h => by omega)), fun k hk => ⟨fun e => ?_, Nat.lt_of_lt_of_le (h.b k hk).2 hs2⟩⟩, h4, h2⟩
  · rcases h2 k hk with h' | h'
    · exact h.f k h'
    · exact .inr (by omega)
  · rcases h3 k hk with h' | h'
    · exact h.r k h'
    · exact .inr (by omega)
  · rcases h2 k e with h' | h'
    · exact (h.b k hk).1 h'
    · have := (h.b k hk).2; omega
theorem Ch.to (h : Ch w W F Ro F1 Ro1 db size hist bx) : DkTo w W F Ro db size hist := ⟨F1, Ro1, h.dk, h.f, h.r, h.c⟩
theorem Ch.start (h : Dk w F Ro db size hist) : Ch w w F Ro F Ro db size hist [] := ⟨h, fun _ h => .inl h, fun _ h => .inl h, Chg.refl _ _, fun k hk => by cases hk⟩
end
section
variable {n : Nat} {S fs : Fs}
theorem settle_clean (h : Clean n S fs) (hn : n < 98) : settleM fs = (n, []) := by
  have ht : trO fs = [] := by unfold trO; rw [h.2]; rfl
  have hno : ∀ m, m < 99 → m ≠ n → getB fs (cntN m) = none := fun m hm hne => h.1.only _ (own_cnt m) (by simpa using ⟨cnt_trial m, cnt_ne hm (by omega) hne⟩)
  rcases h.1.cnt with h1 | ⟨rfl, h1⟩
  · have hc : cntOf fs = some n := cntOf_some (by omega) (by rw [h1]; simp) (fun m h3 h4 => hno m h4 (by omega))
    rw [settle_old hc, ht, h1]
    · simp
    · by_cases h0 : n = 0
      · exact .inl h0
      · exact .inr (hno _ (by omega) (by omega))
  · have hc : cntOf fs = none := cntOf_none (fun m h4 => by
      by_cases hm : m = 0
      · subst hm; exact h1
      · exact hno m h4 hm)
    rw [settle_none hc, ht]
theorem clean_kinds (h : Clean n S fs) (hn : n < 98) : ∀ x ∈ namesB fs, NameK x :=
  name_kinds h.1.u h.1.only (fun s hs => by
    rcases List.mem_cons.1 hs with rfl | hs
    · exact .inl rfl
    · exact .inr ⟨n, by omega, List.mem_singleton.1 hs⟩)
theorem clean_named (h : Clean n S fs) (hS : Mine S) (hn : n < 98) : ∀ s, getB fs s ≠ none → nameB s = true := fun s hs => by
  by_cases ho : ownB s = true
  · rw [h.1.own s ho] at hs
    exact (hS.own s hs).2
  · have h1 : s ∈ [trialN, cntN n] := Classical.byContradiction fun h2 => hs (h.1.only s (by simpa using ho) h2)
    rcases List.mem_cons.1 h1 with rfl | h1
    · exact name_trial
    · rw [List.mem_singleton.1 h1]; exact name_cnt n (by omega)
end
structure Mx (W : World) (db n bm N : Nat) (f : ByteArray → Option Int) (x3 x7 x8 : Nat) : Prop where
  h3 : Holds W x3 28 #[.pointer (some ⟨db, 0, none⟩)]
  h7 : Holds W x7 32 #[.int .u64 (n : Int)]
  h8 : Holds W x8 58 #[.map (some bm)]
  im : IMap W bm N f
theorem Mx.chg {W W' : World} {db n bm N : Nat} {f : ByteArray → Option Int} {x3 x7 x8 : Nat} {G : Nat → Prop} (h : Mx W db n bm N f x3 x7 x8) (hc : Chg W W' G) (hG : ¬ G x3 ∧ ¬ G x7 ∧ ¬ G x8 ∧ ¬ G bm) : Mx W' db n bm N f x3 x7 x8 :=
  ⟨hc.holds hG.1 h.h3, hc.holds hG.2.1 h.h7, hc.holds hG.2.2.1 h.h8, h.im.chg hc hG.2.2.2⟩
theorem Mx.later {W W' : World} {db n bm N : Nat} {f : ByteArray → Option Int} {x3 x7 x8 : Nat} (h : Mx W db n bm N f x3 x7 x8) (hb : Below W.heap.size W W') : Mx W' db n bm N f x3 x7 x8 := h.chg (Chg.below hb (fun _ => False)) ⟨fun h => h, fun h => h, fun h => h, fun h => h⟩
theorem weigh_w {p : Plan} (h : p.weigh ≤ 40000) : p.wr.length ≤ 40000 ∧ p.rm.length ≤ 40000 ∧ textsN p.wr ≤ 40000 ∧ (∀ f ∈ p.wr, f.1.size ≤ 40000 ∧ f.2.length ≤ 40000) ∧ (∀ s ∈ p.rm, s.size ≤ 40000) ∧ p.log.length ≤ 700000 := by
  have hl := log_size p
  have h1 := h
  unfold Plan.weigh at h1
  refine ⟨by omega, by omega, by omega, fun f hf => ⟨?_, ?_⟩, fun s hs => ?_, by omega⟩
  · have := le_sum (List.mem_map.2 ⟨f, hf, rfl⟩ : f.1.size ∈ p.wr.map (·.1.size)); omega
  · have := le_sum (List.mem_map.2 ⟨f, hf, rfl⟩ : f.2.length ∈ p.wr.map (·.2.length))
    unfold textsN at h1
    omega
  · have := le_sum (List.mem_map.2 ⟨s, hs, rfl⟩ : s.size ∈ p.rm.map (·.size)); omega
theorem isum_le {l : List Int} {b : Int} (h : ∀ x ∈ l, x ≤ b) : l.sum ≤ b * l.length := by
  induction l with
  | nil => simp
  | cons a l ih =>
    have h1 := ih (fun x hx => h x (List.mem_cons_of_mem _ hx))
    have h2 := h a (List.mem_cons_self ..)
    rw [List.sum_cons, List.length_cons]
    push_cast
    rw [Int.mul_add]
    omega
theorem isum_nonneg {l : List Int} (h : ∀ x ∈ l, 0 ≤ x) : 0 ≤ l.sum := by
  induction l with
  | nil => simp
  | cons a l ih =>
    have h1 := ih (fun x hx => h x (List.mem_cons_of_mem _ hx))
    have h2 := h a (List.mem_cons_self ..)
    rw [List.sum_cons]; omega
theorem growB_le {f : ByteArray → Option Int} (p : Plan) (hf : ∀ s, 0 ≤ (f s).getD 0) : growB f p ≤ (textsN p.wr : Int) := by
  unfold growB
  have e1 : (p.wr.map fun x => (x.2.length : Int) - (f x.1).getD 0).sum ≤ (textsN p.wr : Int) := by
    unfold textsN
    induction p.wr with
    | nil => simp
    | cons a l ih =>
      have := hf a.1
      simp only [List.map_cons, List.sum_cons]
      push_cast
      omega
  have e4 := isum_nonneg (l := p.rm.map fun s => (f s).getD 0) (fun x hx => by obtain ⟨s, _, rfl⟩ := List.mem_map.1 hx; exact hf s)
  omega
theorem grow_bounds {f : ByteArray → Option Int} {p : Plan} (hp : p.weigh ≤ 40000) (hf : ∀ s, 0 ≤ (f s).getD 0 ∧ (f s).getD 0 ≤ 1000000000) : growB f p ≤ 10000000 ∧ -10000000000000000 ≤ growB f p := by
  obtain ⟨h1, h2, h3, h4, h5, _⟩ := weigh_w hp
  unfold growB
  have e1 : (p.wr.map fun x => (x.2.length : Int) - (f x.1).getD 0).sum ≤ (textsN p.wr : Int) := by
    unfold textsN
    clear h1 h3 h4 hp
    induction p.wr with
    | nil => simp
    | cons a l ih =>
      have := (hf a.1).1
      simp only [List.map_cons, List.sum_cons]
      push_cast
      omega
  have e2 : -1000000000 * (p.wr.length : Int) ≤ (p.wr.map fun x => (x.2.length : Int) - (f x.1).getD 0).sum := by
    clear h1 h3 h4 hp e1
    induction p.wr with
    | nil => simp
    | cons a l ih =>
      have := (hf a.1).2
      simp only [List.map_cons, List.sum_cons, List.length_cons]
      push_cast
      omega
  have e3 := isum_le (l := p.rm.map fun s => (f s).getD 0) (b := 1000000000) (fun x hx => by obtain ⟨s, _, rfl⟩ := List.mem_map.1 hx; exact (hf s).2)
  have e4 := isum_nonneg (l := p.rm.map fun s => (f s).getD 0) (fun x hx => by obtain ⟨s, _, rfl⟩ := List.mem_map.1 hx; exact (hf s).1)
  rw [List.length_map] at e3
  omega
theorem sizeF_bounds {w : World} {F Ro : Nat → Prop} {db size : Nat} {hist : List Raw} (h : Dk w F Ro db size hist) (hh : hist.length ≤ 190000) : ∀ s, 0 ≤ ((sizeF (runR hist) s)).getD 0 ∧ (sizeF (runR hist) s).getD 0 ≤ 1000000000 := fun s => by
  have h1 := getB_used (fs := runR hist) (s := s)
  have hul := h.used_le
  unfold sizeF
  cases hg : getB (runR hist) s with
  | none => simp
  | some b =>
    rw [hg] at h1
    simp only [Option.getD_some, Option.map_some] at h1 ⊢
    omega
theorem weigh_perm {l l' : List (ByteArray × Bs)} (h : l'.Perm l) (rm : List ByteArray) : (⟨rm, l'⟩ : Plan).weigh = (⟨rm, l⟩ : Plan).weigh := by
  unfold Plan.weigh textsN
  simp only
  rw [h.length_eq, (h.map _).sum_nat, (h.map (·.2.length)).sum_nat]
theorem own_frow {w : World} {B : Nat} {v : Value} {l : List (ByteArray × Bs)} (h : w.ownsRow B 50 2 v l.length (rowFl l)) (hl : 0 < l.length) : ∃ g c t, v = .slice (some ⟨g, 0, none⟩) l.length c ∧ l.length ≤ c ∧ B ≤ g ∧ FRow w g l t := by
  rcases h.2 with ⟨_, h2⟩ | ⟨g, cap, cur, h1, h2, h3, h4, h5, h6, h7⟩
  · omega
  · refine ⟨g, cap, cur.toList.drop (l.length * 2), h1, h4, h2, ?_⟩
    have e : rowFl l ++ cur.toList.drop (l.length * 2) = cur.toList := by
      rw [← h7]; exact List.take_append_drop _ _
    unfold FRow
    rw [e]
    exact h3
theorem TextsS.toR {W : World} {S : Nat → Prop} {B : Nat} {v : Value} {l : List ByteArray} (h : TextsS W S v l) (hS : ∀ k, S k → k < B) : TextsR W B v l := by
  obtain ⟨A, c, e, hl, h1⟩ := h
  refine ⟨A, c, e, hl, fun j s hs => ?_⟩
  obtain ⟨b, off, h2, h3, h4⟩ := h1 j s hs
  exact ⟨b, off, h2, hS b h3, h4⟩
theorem FilesS.toR {W : World} {S : Nat → Prop} {B : Nat} {v : Value} {l : List (ByteArray × Bs)} (h : FilesS W S v l) (hS : ∀ k, S k → k < B) : FilesR W B v l := by
  obtain ⟨A, c, e, hl, h1⟩ := h
  refine ⟨A, c, e, hl, fun j s hs => ?_⟩
  obtain ⟨b, off, h2, h3, h4, h5⟩ := h1 j s hs
  exact ⟨b, off, h2, hS b h3, h4, h5⟩
theorem own_inb {W : World} {B : Nat} {F : Nat → Prop} {A : Option Addr} {c : Nat} {b : Bs} (h : W.ownsRow B 5 1 (.slice A b.length c) b.length (u8L b)) (hF : ∀ k, F k → k < B) : InB W F A b := by
  obtain ⟨A', c', e, _, h1⟩ := own_at h
  injection e with e1 e2 e3
  subst e1
  cases b with
  | nil => exact .inl rfl
  | cons x b =>
    obtain ⟨blk, e4, e5, e6, e7⟩ := h1 0 _ rfl
    refine .inr ⟨blk, 0, e4, fun e => by have := hF _ e; omega, fun j u hu => ?_⟩
    obtain ⟨blk', f4, _, _, f7⟩ := h1 j u hu
    rw [e4] at f4
    injection f4 with f4
    injection f4 with f4
    subst f4
    rw [Nat.zero_add]
    exact f7
theorem InB.step {W W' : World} {F1 F2 : Nat → Prop} {A : Option Addr} {q : Bs} (h : InB W F1 A q) (hc : Chg W W' F1) (hF : ∀ k, F2 k → F1 k ∨ W.heap.size ≤ k) : InB W' F2 A q := by
  cases q with
  | nil => exact .inl rfl
  | cons x q =>
    rcases h with h | ⟨blk, off, h1, h2, h3⟩
    · cases h
    · have hl := World.block_lt_of_cell? W _ (h3 0 _ rfl)
      have hl2 : blk < W.heap.size := hl
      exact .inr ⟨blk, off, h1, fun e => (hF blk e).elim h2 (fun h => by omega), fun j u hu => hc.cell (p := ⟨blk, off + j, none⟩) h2 (h3 j u hu)⟩
structure Kx (W : World) (F1 : Nat → Prop) (db n bm N : Nat) (f : ByteArray → Option Int) (x3 x7 x8 x9 xb lo : Nat) (rv wv : Value) (rm : List ByteArray) (l : List (ByteArray × Bs)) (A : Option Addr) (c : Nat) (lg : Bs) : Prop where
  m : Mx W db n bm N f x3 x7 x8
  h9 : Holds W x9 64 #[rv, wv]
  hb : Holds W xb 69 #[.slice A lg.length c]
  tr : TextsS W (fun k => lo ≤ k ∧ k < x9) rv rm
  fs : FilesS W (fun k => lo ≤ k ∧ k < x9) wv l
  li : InB W F1 A lg
  nb : ∀ k ∈ [x3, x7, x8, x9, xb, bm], ¬ F1 k ∧ k < W.heap.size
  nr : ∀ k, lo ≤ k → k < x9 → ¬ F1 k
theorem Kx.step {W W' : World} {F1 F2 : Nat → Prop} {db n bm N : Nat} {f : ByteArray → Option Int} {x3 x7 x8 x9 xb lo : Nat} {rv wv : Value} {rm : List ByteArray} {l : List (ByteArray × Bs)} {A : Option Addr} {c : Nat} {lg : Bs}
    (h : Kx W F1 db n bm N f x3 x7 x8 x9 xb lo rv wv rm l A c lg) (hc : Chg W W' F1) (hF : ∀ k, F2 k → F1 k ∨ W.heap.size ≤ k) : Kx W' F2 db n bm N f x3 x7 x8 x9 xb lo rv wv rm l A c lg where
  m := h.m.chg hc ⟨(h.nb x3 (by simp)).1, (h.nb x7 (by simp)).1, (h.nb x8 (by simp)).1, (h.nb bm (by simp)).1⟩
  h9 := hc.holds (h.nb x9 (by simp)).1 h.h9
  hb := hc.holds (h.nb xb (by simp)).1 h.hb
  tr := h.tr.chg hc (fun k hk => ⟨hk, h.nr k hk.1 hk.2⟩)
  fs := h.fs.chg hc (fun k hk => ⟨hk, h.nr k hk.1 hk.2⟩)
  li := h.li.step hc hF
  nb := fun k hk => ⟨fun e => (hF k e).elim (h.nb k hk).1 (fun h' => by have := (h.nb k hk).2; omega), Nat.lt_of_lt_of_le (h.nb k hk).2 hc.size⟩
  nr := fun k h1 h2 e => (hF k e).elim (h.nr k h1 h2) (fun h' => by have := (h.nb x9 (by simp)).2; omega)
theorem Kx.later {W W' : World} {F1 : Nat → Prop} {db n bm N : Nat} {f : ByteArray → Option Int} {x3 x7 x8 x9 xb lo : Nat} {rv wv : Value} {rm : List ByteArray} {l : List (ByteArray × Bs)} {A : Option Addr} {c : Nat} {lg : Bs}
    (h : Kx W F1 db n bm N f x3 x7 x8 x9 xb lo rv wv rm l A c lg) (hb : Below W.heap.size W W') : Kx W' F1 db n bm N f x3 x7 x8 x9 xb lo rv wv rm l A c lg := h.step (Chg.below hb F1) (fun _ h => .inl h)
theorem ops_cost (p : Plan) : costO p.ops ≤ p.rm.length + (2 * p.wr.length + textsN p.wr) := by
  unfold Plan.ops
  rw [costO_app]
  have h1 : ∀ l : List ByteArray, costO (l.map .rm) = l.length := fun l => by
    induction l with
    | nil => rfl
    | cons a l ih =>
      unfold costO at *
      rw [List.map_cons, List.map_cons, List.sum_cons, ih, List.length_cons]
      show 1 + _ = _
      omega
  have h2 : ∀ l : List (ByteArray × Bs), costO (l.map fun f => .wr f.1 f.2) ≤ 2 * l.length + textsN l := fun l => by
    induction l with
    | nil => simp [costO, textsN]
    | cons a l ih =>
      unfold costO textsN at *
      rw [List.map_cons, List.map_cons, List.sum_cons, List.map_cons, List.sum_cons, List.length_cons]
      have e : (DOp.wr a.1 a.2).cost = a.2.length / 512 + 2 := rfl
      omega
  rw [h1]
  have := h2 p.wr
  omega
theorem change_runs (p : Plan) (n : Nat) (fs : Fs) (z : Bs) (size : Nat) (hist : List Raw) : runO size (changeO p n fs z) hist = runO size [.rm (cntN n), .wr (cntN (n + 1)) []] (runO size p.ops (runO size [.wr (cntN (n + 1)) p.log] (runO size (if getB fs (cntN n) = none then [.wr (cntN n) []] else []) (runO size [.wr trialN z, .rm trialN] hist)))) := by
  unfold changeO
  rw [runO_app, runO_app]
  show runO size ([.wr (cntN (n + 1)) p.log] ++ (p.ops ++ [.rm (cntN n), .wr (cntN (n + 1)) []])) _ = _
  rw [runO_app, runO_app]
theorem bool_of (P : Prop) : ∃ b : Bool, b = true ↔ P := by
  by_cases h : P
  · exact ⟨true, by simpa using h⟩
  · exact ⟨false, by simpa using h⟩
theorem sortC_any {W : World} {B : Nat} {v : Value} {l : List (ByteArray × Bs)} (h : W.ownsRow B 50 2 v l.length (rowFl l)) (hl : l.length ≤ 1000000) {gb : Nat} (hcmp : ∀ g, v.ownBlock = some g → CmpOk W g gb l) :
    Calls Tryz.prog 24 #[v, .func (.func 25) #[] #[.pointer (some ⟨gb, 0, none⟩)]] W fun e w' => e = .returned (.tuple #[]) ∧ ∃ l' : List (ByteArray × Bs), l'.Perm l ∧ FilesS w' (fun k => v.ownBlock = some k) v l' ∧ Chg W w' (fun k => v.ownBlock = some k) := by
  by_cases h0 : 0 < l.length
  · obtain ⟨g, c, t, rfl, hc, hB, hF⟩ := own_frow h h0
    refine (sort_any hF hl hc (hcmp g rfl)).mono ?_
    rintro e w' ⟨rfl, l', hp, hF', hch⟩
    refine ⟨rfl, l', hp, ⟨some ⟨g, 0, none⟩, c, by rw [hp.length_eq], by rw [hp.length_eq]; exact hc, fun j f hf => ?_⟩, hch.mono (fun k _ e => by rw [e]; rfl)⟩
    obtain ⟨h1, h2⟩ := hF'.cell hf
    exact ⟨g, 0, rfl, rfl, by rw [Nat.zero_add]; exact h1, by rw [Nat.zero_add]; exact h2⟩
  · have hl0 : l = [] := List.length_eq_zero_iff.1 (by omega)
    subst hl0
    obtain ⟨A, c, rfl, _⟩ := own_slice2 h
    refine (sort_none A c _ W).mono ?_
    rintro e w' ⟨rfl, rfl⟩
    exact ⟨rfl, [], List.Perm.refl _, ⟨A, c, rfl, by simp, fun j f hf => by simp at hf⟩, Chg.refl _ _⟩
end Go.Proofs.YtmldpehkacemfaaGreatDoor
