/-
  What the chapter's laws share, part 4: plain facts, memory, and walks of functions. Its conditions: those that each theorem names.
-/
import Derived.Shelf.Strings.BuilderK
import Derived.Test.YtgiiglcgfbnaoaaGreatDoorK3
set_option linter.unusedSimpArgs false
set_option linter.unusedVariables false
namespace Go.Bd
open Go.RowKit
def tW : TypeId := 77
def tK : TypeId := 31
def tL : TypeId := 22
/-- what is gathered so far, and the closure's own cells -/
structure EachSt (w : World) (B bk bo bw : Nat) (k : Nat) (acc : List Sp) (vo : Value) : Prop where
  hk : Holds w bk tK #[.int .u8 (k : Int)]
  ho : Holds w bo tL #[vo]
  hw : Holds w bw tW #[.func (.func 45) #[] #[.pointer (some ⟨bk, 0, none⟩), .pointer (some ⟨bo, 0, none⟩), .pointer (some ⟨bw, 0, none⟩)]]
  row : ∃ F, SpanRow w B tS F vo acc ∧ ∀ b, F b → b < w.heap.size ∧ b ≠ bo ∧ vo.ownBlock ≠ some b
  bB : B ≤ bk ∧ B ≤ bo ∧ B ≤ bw
section
variable {w w' : World} {B bk bo bw k : Nat} {acc : List Sp} {vo : Value}
theorem EachSt.later (h : EachSt w B bk bo bw k acc vo) (hb : Below w.heap.size w w') : EachSt w' B bk bo bw k acc vo := by
  obtain ⟨F, h1, h2⟩ := h.row
  have hc := Chg.below hb (fun _ => False)
  refine ⟨hc.holds (fun h => h) h.hk, hc.holds (fun h => h) h.ho, hc.holds (fun h => h) h.hw, ⟨F, h1.chg hc (fun _ h => h) (fun _ _ h => h) (fun _ _ h => h), fun b hb' => ?_⟩, h.bB⟩
  have := h2 b hb'
  exact ⟨Nat.lt_of_lt_of_le this.1 hb.size, this.2⟩
theorem EachSt.ne (h : EachSt w B bk bo bw k acc vo) : vo.ownBlock ≠ some bk ∧ vo.ownBlock ≠ some bo ∧ vo.ownBlock ≠ some bw := by
  obtain ⟨F, ⟨kvs, _, ho, _⟩, _⟩ := h.row
  exact ⟨own_apart_holds ho h.hk (by decide), own_apart_holds ho h.ho (by decide), own_apart_holds ho h.hw (by decide)⟩
theorem EachSt.apart (h : EachSt w B bk bo bw k acc vo) : bk ≠ bo ∧ bw ≠ bo := by
  refine ⟨fun e => ?_, fun e => ?_⟩
  · have h1 := h.hk; have h2 := h.ho
    subst e; unfold Holds at h1 h2; rw [h1] at h2; injection h2 with h2; injection h2 with _ h3 _; exact absurd h3 (by decide)
  · have h1 := h.hw; have h2 := h.ho
    subst e; unfold Holds at h1 h2; rw [h1] at h2; injection h2 with h2; injection h2 with _ h3 _; exact absurd h3 (by decide)
end
theorem each1_eq (x : Sp) (k : Nat) : each1 x k = (if x.kind = k then [x] else []) ++ eachL x.kids k := by
  obtain ⟨q, t, u, v, ks⟩ := x
  simp only [each1]
  split <;> rfl
theorem eachL_app (k : Nat) : ∀ a b : List Sp, eachL (a ++ b) k = eachL a k ++ eachL b k
  | [], b => by simp [eachL]
  | x :: a, b => by rw [List.cons_append, eachL, eachL, eachL_app k a b, List.append_assoc]
theorem eachL_take {l : List Sp} {j : Nat} {x : Sp} (h : l[j]? = some x) (k : Nat) : eachL (l.take (j + 1)) k = eachL (l.take j) k ++ ((if x.kind = k then [x] else []) ++ eachL x.kids k) := by
  rw [List.take_add_one, h, eachL_app]
  simp only [Option.toList_some, eachL, List.append_nil, each1_eq]
mutual
theorem each1_len : ∀ (x : Sp) (k : Nat), (each1 x k).length ≤ many1 x
  | ⟨q, t, u, v, ks⟩, k => by
    have := eachL_len ks k
    simp only [each1, many1]
    split <;> simp <;> omega
theorem eachL_len : ∀ (l : List Sp) (k : Nat), (eachL l k).length ≤ manyL l
  | [], _ => Nat.le_refl _
  | x :: l, k => by
    have h1 := each1_len x k
    have h2 := eachL_len l k
    simp only [eachL, manyL, List.length_append]; omega
end
theorem manyL_app2 : ∀ a b : List Sp, manyL (a ++ b) = manyL a + manyL b
  | [], b => by simp [manyL]
  | x :: a, b => by rw [List.cons_append, manyL, manyL, manyL_app2 a b, Nat.add_assoc]
theorem many_take {l : List Sp} {j : Nat} {x : Sp} (h : l[j]? = some x) : manyL (l.take j) + 1 + manyL x.kids ≤ manyL l := by
  have e : l = l.take (j + 1) ++ l.drop (j + 1) := (List.take_append_drop _ _).symm
  have e2 : l.take (j + 1) = l.take j ++ [x] := by rw [List.take_add_one, h]; rfl
  conv => rhs; rw [e, manyL_app2, e2, manyL_app2]
  obtain ⟨q, t, u, v, ks⟩ := x
  simp only [manyL, many1]; omega
end Go.Bd
namespace Go.Proofs.YtgiiglcgfbnaoaaGreatDoor
open Go.RowKit Go.Bd
theorem callsWith {P : Program} {F : FuncId} {args : Array Value} {W : World} {Q : Ending → World → Prop} (X : World → Prop) (hx : X W) (hc : X W → Calls P F args W Q) : Calls P F args W Q := hc hx
/-- what is known of spans that are gone through, so many at most -/
def EachOk (N : Nat) : Prop := ∀ (l : List Sp), manyL l ≤ N → manyL l ≤ 1000000000 → ∀ (v : Value) (w : World) (B bk bo bw k : Nat) (acc : List Sp) (vo : Value), Forest w (· < B) v l → EachSt w B bk bo bw k acc vo → acc.length + manyL l ≤ 100000000 →
    Calls Tryz.prog 45 #[v, .pointer (some ⟨bk, 0, none⟩), .pointer (some ⟨bo, 0, none⟩), .pointer (some ⟨bw, 0, none⟩)] w fun e w' => e = .returned (.tuple #[]) ∧ ∃ vo', EachSt w' B bk bo bw k (acc ++ eachL l k) vo' ∧ Below B w w'
set_option maxRecDepth 100000 in
set_option maxHeartbeats 4000000 in
theorem each_step {N : Nat} (ih : ∀ M, M < N → EachOk M) : EachOk N := by
  intro l hN hm v w B bk bo bw k acc vo hF hS hL
  obtain ⟨A, c, rfl, hcc⟩ := hF.len
  have hlm := many_len l
  have HF := Lib.hid hF
  have HIH := Lib.hid ih
  have HST := Lib.hid hS
  obtain ⟨hBk, hBo, hBw⟩ := hS.bB
  obtain ⟨hko, hwo⟩ := hS.apart
  clear hF ih hS
  obtain ⟨n, hn⟩ : ∃ n, l.length = n := ⟨_, rfl⟩
  have HN := Lib.hid hn
  simp only [hn] at hcc hlm HF ⊢
  clear hn
  go_enter Tryz.func45, Tryz.ntmps45
  go_wp2
  go_loopg [10] n (fun q i wr => ∃ j : Nat, j + q = n ∧ i = .int .i64 (j : Int) ∧ Hid ((∃ vo', EachSt wr B bk bo bw k (acc ++ eachL (l.take j) k) vo') ∧ Below B w wr))
  case atStart => exact ⟨0, by omega, rfl, ⟨vo, by simpa [eachL] using HST.out⟩, Below.refl _ _⟩
  case round =>
    obtain ⟨j, hj, rfl, HR⟩ := hrel
    by_cases hlt : j < n
    · obtain ⟨⟨vo', hst⟩, hbl⟩ := HR.out
      obtain ⟨x, hx⟩ : ∃ x, l[j]? = some x := ⟨_, List.getElem?_eq_getElem (by rw [HN.out]; exact hlt)⟩
      obtain ⟨b1, off, kA, kc, rfl, hb1, hkF, p0, p1, p2, p3, p4⟩ := HF.out.at hx
      have hrb := hbl.size
      replace p0 := (hbl.cell (p := ⟨b1, off + j * 5, none⟩) hb1).trans p0
      replace p1 := (hbl.cell (p := ⟨b1, off + j * 5 + 1, none⟩) hb1).trans p1
      replace p2 := (hbl.cell (p := ⟨b1, off + j * 5 + 2, none⟩) hb1).trans p2
      replace p3 := (hbl.cell (p := ⟨b1, off + j * 5 + 3, none⟩) hb1).trans p3
      replace p4 := (hbl.cell (p := ⟨b1, off + j * 5 + 4, none⟩) hb1).trans p4
      have hmt := many_take hx
      have hel := eachL_len (l.take j) k
      have HTK := Lib.hid (eachL_take hx k)
      have hal := (Below.refl wr.heap.size wr).alloc (Nat.le_refl _) (.cells #[.int .u8 (x.kind : Int), .string ⟨x.text.toArray⟩, .string ⟨x.sub.toArray⟩, .string ⟨x.see.toArray⟩, .slice kA x.kids.length kc] 33)
      have hst1 := hst.later hal
      have hbo := hst.ho.lt
      have hBs : B ≤ wr.heap.size := by omega
      have HKF := Lib.hid (hkF.under hbl (fun _ h => h))
      have HBL := Lib.hid hbl
      have HAL := Lib.hid hal
      have k1 := hst1.hk.cell 0
      have k3 := hst1.hw.cell 0
      have HST1 := Lib.hid hst1
      have HST0 := Lib.hid hst
      have HX := Lib.hid hx
      obtain ⟨pre, hpre⟩ : ∃ pre, acc ++ eachL (l.take j) k = pre := ⟨_, rfl⟩
      have hpl : pre.length ≤ acc.length + manyL (l.take j) := by rw [← hpre, List.length_append]; omega
      have HTK2 : Hid (acc ++ eachL (l.take (j + 1)) k = pre ++ ((if x.kind = k then [x] else []) ++ eachL x.kids k)) := by unfold Hid; rw [HTK.out, ← List.append_assoc, hpre]
      rw [hpre] at HST1 HST0
      clear hx hkF hbl hal HR hst hst1 HTK hpre
      by_cases hk : x.kind = k
      · subst hk
        have HTK3 : Hid (acc ++ eachL (l.take (j + 1)) x.kind = pre ++ [x] ++ eachL x.kids x.kind) := by unfold Hid; rw [HTK2.out, if_pos rfl, List.append_assoc]
        have hal2 := HAL.out.alloc (by simp) (.cells #[.int .u8 (x.kind : Int), .string ⟨x.text.toArray⟩, .string ⟨x.sub.toArray⟩, .string ⟨x.see.toArray⟩, .slice kA x.kids.length kc] 33)
        have cf := fresh_any _ x.kids (Nat.le_refl _) (by omega) (.slice kA x.kids.length kc) _ B (HKF.out.under (hal2.mono hBs) (fun _ h => h)) (by simp; omega)
        have HAL2 := Lib.hid hal2
        clear hal2
        go_wp2_with fail
        refine cf.mono ?_
        clear cf
        rintro e w3 ⟨v', rfl, hf3, hb3⟩
        obtain ⟨vA, vc, rfl, hvc⟩ := hf3.len
        have hone3 : Holds w3 (wr.heap.size + 1) 33 #[.int .u8 (x.kind : Int), .string ⟨x.text.toArray⟩, .string ⟨x.sub.toArray⟩, .string ⟨x.see.toArray⟩, .slice kA x.kids.length kc] := by
          have h1 := Holds.new (wr.alloc (.cells #[.int .u8 (x.kind : Int), .string ⟨x.text.toArray⟩, .string ⟨x.sub.toArray⟩, .string ⟨x.see.toArray⟩, .slice kA x.kids.length kc] 33)) 33 #[.int .u8 (x.kind : Int), .string ⟨x.text.toArray⟩, .string ⟨x.sub.toArray⟩, .string ⟨x.see.toArray⟩, .slice kA x.kids.length kc]
          rw [World.size_alloc] at h1
          exact (hb3.block (wr.heap.size + 1) (by simp)).trans h1
        have hs3 : Holds w3 wr.heap.size 33 #[.int .u8 (x.kind : Int), .string ⟨x.text.toArray⟩, .string ⟨x.sub.toArray⟩, .string ⟨x.see.toArray⟩, .slice kA x.kids.length kc] := (hb3.block wr.heap.size (by simp; omega)).trans ((Holds.new wr _ _).alloc _)
        have a4 := hone3.cell 4
        have f4 := hone3.free 4
        obtain ⟨w4, hw4⟩ : ∃ w4, w3.setCell ⟨wr.heap.size + 1, 4, none⟩ (.slice vA x.kids.length vc) = w4 := ⟨_, rfl⟩
        have hz34 : w4.heap.size = w3.heap.size := by rw [← hw4]; simp [World.setCell]
        have hsz3 := hb3.size
        simp only [World.size_alloc] at hsz3
        have hx1 : Holds w4 (wr.heap.size + 1) 33 #[.int .u8 (x.kind : Int), .string ⟨x.text.toArray⟩, .string ⟨x.sub.toArray⟩, .string ⟨x.see.toArray⟩, .slice vA x.kids.length vc] := by
          have h1 := hone3.set 4 (.slice vA x.kids.length vc)
          rw [hw4] at h1
          exact h1
        have hs4 : Holds w4 wr.heap.size 33 #[.int .u8 (x.kind : Int), .string ⟨x.text.toArray⟩, .string ⟨x.sub.toArray⟩, .string ⟨x.see.toArray⟩, .slice kA x.kids.length kc] := by
          have h1 := hs3.far (p := ⟨wr.heap.size + 1, 4, none⟩) (by show wr.heap.size ≠ wr.heap.size + 1; omega) (.slice vA x.kids.length vc)
          rw [hw4] at h1
          exact h1
        have hb4 : Below wr.heap.size wr w4 := by
          have h1 := (HAL2.out.trans (hb3.mono (by simp; omega))).setCell (p := ⟨wr.heap.size + 1, 4, none⟩) (by show wr.heap.size ≤ wr.heap.size + 1; omega) (.slice vA x.kids.length vc)
          rw [hw4] at h1
          exact h1
        have hkx : Forest w4 (fun b => wr.heap.size + 2 ≤ b ∧ b < w4.heap.size) (.slice vA x.kids.length vc) x.kids := by
          have h1 := hf3.chg (G := fun b => wr.heap.size + 2 ≤ b ∧ b < w3.heap.size) (Chg.set w3 ⟨wr.heap.size + 1, 4, none⟩ (.slice vA x.kids.length vc)) (fun b h => by simp only [World.size_alloc] at h; exact ⟨by omega, h.2⟩) (fun b h hs => by simp only [World.size_alloc] at h hs; omega)
          rw [hw4] at h1
          rw [hz34]; exact h1
        have hst4 := HST0.out.later hb4
        have HKF4 := Lib.hid (HKF.out.under (hb4.mono hBs) (fun _ h => h))
        obtain ⟨F, hsr0, hF0⟩ := HST0.out.row
        have hvl := hsr0.lt
        obtain ⟨Fz, hsr, hFz⟩ := (show ∃ F, SpanRow w4 B tS F vo' pre ∧ ∀ b, F b → b < wr.heap.size ∧ b ≠ bo ∧ vo'.ownBlock ≠ some b from ⟨F, hsr0.chg (Chg.below hb4 (fun _ => False)) (fun _ h => h) (fun _ _ h => h) (fun _ _ h => h), hF0⟩)
        clear hsr0 hF0
        obtain ⟨As, cs', rfl, hcs'⟩ := hsr.form
        obtain ⟨kvs, hkl, hso, hkf⟩ := hsr
        obtain ⟨i0, hi0, hz0, hz1, hz2⟩ := info_parts span_info
        obtain ⟨_, hbs1, _⟩ := hst4.ne
        have hbo4 := HST0.out.ho.lt
        have hbk4 := HST0.out.hk.lt
        have hbw4 := HST0.out.hw.lt
        have hxs1 : (Value.slice As pre.length cs').ownBlock ≠ some (wr.heap.size + 1) := fun h => by have := (hvl _ h).2; omega
        have hss1 : (Value.slice As pre.length cs').ownBlock ≠ some wr.heap.size := fun h => by have := (hvl _ h).2; omega
        have hxb : wr.heap.size + 1 ≠ bo := by omega
        have g1 := hst4.ho
        have k0 := g1.cell 0
        have hbo44 := g1.lt
        have hrl := rowCells_length hkl
        have hrc : ∀ i, i < 5 → (rowCells pre kvs ++ [.int .u8 0, .string ⟨#[]⟩, .string ⟨#[]⟩, .string ⟨#[]⟩, .slice none 0 0])[pre.length * 5 + i]? = ([.int .u8 0, .string ⟨#[]⟩, .string ⟨#[]⟩, .string ⟨#[]⟩, .slice none 0 0] : List Value)[i]? := fun i _ => by
          rw [List.getElem?_append_right (by omega)]
          congr 1; omega
        have hrc0 : Hid ((rowCells pre kvs ++ [.int .u8 0, .string ⟨#[]⟩, .string ⟨#[]⟩, .string ⟨#[]⟩, .slice none 0 0])[pre.length * 5]? = some (.int .u8 0)) := hrc 0 (by omega)
        have hrc1 : Hid ((rowCells pre kvs ++ [.int .u8 0, .string ⟨#[]⟩, .string ⟨#[]⟩, .string ⟨#[]⟩, .slice none 0 0])[pre.length * 5 + 1]? = some (.string ⟨#[]⟩)) := hrc 1 (by omega)
        have hrc2 : Hid ((rowCells pre kvs ++ [.int .u8 0, .string ⟨#[]⟩, .string ⟨#[]⟩, .string ⟨#[]⟩, .slice none 0 0])[pre.length * 5 + 2]? = some (.string ⟨#[]⟩)) := hrc 2 (by omega)
        have hrc3 : Hid ((rowCells pre kvs ++ [.int .u8 0, .string ⟨#[]⟩, .string ⟨#[]⟩, .string ⟨#[]⟩, .slice none 0 0])[pre.length * 5 + 3]? = some (.string ⟨#[]⟩)) := hrc 3 (by omega)
        have hrc4 : Hid ((rowCells pre kvs ++ [.int .u8 0, .string ⟨#[]⟩, .string ⟨#[]⟩, .string ⟨#[]⟩, .slice none 0 0])[pre.length * 5 + 4]? = some (.slice none 0 0)) := hrc 4 (by omega)
        have HKX := Lib.hid hkx
        have HKFF := Lib.hid hkf
        have HRL := Lib.hid hrl
        have HKL := Lib.hid hkl
        have HFZ := Lib.hid hFz
        have HVL := Lib.hid hvl
        have HST4 := Lib.hid hst4
        have HS4 := Lib.hid hs4
        have HB4 := Lib.hid hb4
        have HZ34 := Lib.hid hz34
        have hpl5 : pre.length ≤ 100000000 := by omega
        have hBw4 : B ≤ w4.heap.size := by omega
        have hwr4 : wr.heap.size + 2 ≤ w4.heap.size := by omega
        clear hrc hkx hkf hrl hkl hFz hvl hst4 hs4 hb4 hz34 hs3 hone3 hf3 hb3
        have hi0' : (0 : Int) ≤ (pre.length : Int) := by omega
        have hi1' : (pre.length : Int) < (pre.length : Int) + 1 := by omega
        go_wp2
        refine wp_region_held_drew (S := (fun w' => w'.cell? ⟨wr.heap.size + 1, 0, none⟩ = some (.int .u8 (x.kind : Int)) ∧ w'.cell? ⟨wr.heap.size + 1, 1, none⟩ = some (.string ⟨x.text.toArray⟩) ∧ w'.cell? ⟨wr.heap.size + 1, 2, none⟩ = some (.string ⟨x.sub.toArray⟩) ∧ w'.cell? ⟨wr.heap.size + 1, 3, none⟩ = some (.string ⟨x.see.toArray⟩) ∧ w'.cell? ⟨wr.heap.size + 1, 4, none⟩ = some (.slice vA x.kids.length vc))) (by kernel_rfl) ?_ (fun hHeld0 => ?_)
        · (try dsimp only)
          refine cells5 (t := 33) ?_
          repeat (first | with_reducible exact hx1 | with_reducible exact hx2 | with_reducible refine Holds.far ?_ hxgg _ | with_reducible refine Holds.far ?_ hxb _ | with_reducible refine Holds.alloc ?_ _ | with_reducible refine Holds.drew ?_)
        refine wpAnyH_take (i := 1) (v := ?_) rfl (by kernel_rfl) (by kernel_rfl) (by kernel_rfl) (fun _ _ _ h => h) (Or.inl ⟨by kernel_rfl, ?_⟩) (by assumption) ?_
        rotate_left
        · (intro w hSw; (try dsimp only at hSw); go_simp; (first | done | with_reducible rfl))
        (try simp only [Act.put, List.setIfInBounds_toArray, List.set_cons_zero, List.set_cons_succ])
        refine wpAnyH_ready (rs := [0, 3]) (by kernel_rfl) (by simp) ?_
        refine AllReadyH.cons rfl (fun K hK => ?_) ?_
        · skip
          go_simp
          refine hK.out _ _ ?_ (fun hHeld1 => ?_)
          · (try dsimp only)
            refine cells5 (t := 33) ?_
            repeat (first | with_reducible exact hx1 | with_reducible exact hx2 | with_reducible refine Holds.far ?_ hxgg _ | with_reducible refine Holds.far ?_ hxb _ | with_reducible refine Holds.alloc ?_ _ | with_reducible refine Holds.drew ?_)
          clear hK K hHeld0
          (try simp only [Act.put, List.setIfInBounds_toArray, List.set_cons_zero, List.set_cons_succ])
          refine wpAnyH_take (i := 2) (v := ?_) rfl (by kernel_rfl) (by kernel_rfl) (by kernel_rfl) (fun _ _ _ h => h) (Or.inl ⟨by kernel_rfl, ?_⟩) (by assumption) ?_
          rotate_left
          · (intro w hSw; (try dsimp only at hSw); go_simp; (first | done | with_reducible rfl))
          (try simp only [Act.put, List.setIfInBounds_toArray, List.set_cons_zero, List.set_cons_succ])
          refine wpAnyH_ready (rs := [3]) (by kernel_rfl) (by simp) ?_
          refine AllReadyH.cons rfl (fun K hK => ?_) AllReadyH.nil
          go_simp
          refine hK.out _ _ ?_ (fun hHeld2 => ?_)
          · (try dsimp only)
            refine cells5 (t := 33) ?_
            repeat (first | with_reducible exact hx1 | with_reducible exact hx2 | with_reducible refine Holds.far ?_ hxgg _ | with_reducible refine Holds.far ?_ hxb _ | with_reducible refine Holds.alloc ?_ _ | with_reducible refine Holds.drew ?_)
          clear hK K hHeld1
          (try simp only [Act.put, List.setIfInBounds_toArray, List.set_cons_zero, List.set_cons_succ])
          refine wpAnyH_ready (rs := [4]) (by kernel_rfl) (by simp) ?_
          refine AllReadyH.cons rfl (fun K hK => ?_) AllReadyH.nil
          refine step_append_lies _ (by rfl) _ _ _ (by rfl) B 33 i0 _ 5 80 Tryz.underlying22 hi0 hz0 hz1 hz2 rfl (by omega) (.slice As pre.length cs') pre.length (rowCells pre kvs) (by rfl) ((hso.alloc _).drew)
            ⟨w4.heap.size, 0, none⟩ 1 1 [.int .u8 0, .string ⟨#[]⟩, .string ⟨#[]⟩, .string ⟨#[]⟩, .slice none 0 0] (by rfl) (by rfl) (World.news_of_block (cs := #[.int .u8 0, .string ⟨#[]⟩, .string ⟨#[]⟩, .string ⟨#[]⟩, .slice none 0 0]) (t := 33) (fr := (0, 0)) (heap_alloc_new w4 _)) (by simp [Value.oneCell'])
            (by omega) (by unfold maxLen; omega) (by omega) (by simp; omega) (w4.heap.size + 1) (by simp) ?_
          intro gg cap1 w5 hown1 hgrow hat hlt5
          have hggb : gg ≠ bo := fun e => by
            rcases hat with h | h
            · exact hbs1 (h.trans (by rw [e]))
            · omega
          have hbgg : bo ≠ gg := fun e => hggb e.symm
          have hxgg : wr.heap.size + 1 ≠ gg := fun e => by
            rcases hat with h | h
            · exact hxs1 (h.trans (by rw [e]))
            · omega
          have hsgg : wr.heap.size ≠ gg := fun e => by
            rcases hat with h | h
            · exact hss1 (h.trans (by rw [e]))
            · omega
          have hkgg : bk ≠ gg := fun e => by
            rcases hat with h | h
            · exact HST4.out.ne.1 (h.trans (by rw [e]))
            · omega
          have hwgg : bw ≠ gg := fun e => by
            rcases hat with h | h
            · exact HST4.out.ne.2.2 (h.trans (by rw [e]))
            · omega
          have hsbo : wr.heap.size ≠ bo := by omega
          have hch1 := Chg.grown hgrow
          have hh1 := hch1.holds (fun h => hbs1 h.symm) ((g1.alloc _).drew)
          have hx2 := hch1.holds (fun h => hxs1 h.symm) ((hx1.alloc _).drew)
          have hs5 := hch1.holds (fun h => hss1 h.symm) ((HS4.out.alloc _).drew)
          have hk5 := hch1.holds (fun h => HST4.out.ne.1 h.symm) ((HST4.out.hk.alloc _).drew)
          have hw5 := hch1.holds (fun h => HST4.out.ne.2.2 h.symm) ((HST4.out.hw.alloc _).drew)
          have k1 := hh1.cell 0
          have k2 := hh1.free 0
          have s4 := hs5.cell 4
          have q3 := hw5.cell 0
          have z0 := hown1.cellAt (pre.length * 5) (by omega)
          have z1 := hown1.cellAt (pre.length * 5 + 1) (by omega)
          have z2 := hown1.cellAt (pre.length * 5 + 2) (by omega)
          have z3 := hown1.cellAt (pre.length * 5 + 3) (by omega)
          have z4 := hown1.cellAt (pre.length * 5 + 4) (by omega)
          have y0 := hown1.frozenAt (pre.length * 5)
          have y1 := hown1.frozenAt (pre.length * 5 + 1)
          have y2 := hown1.frozenAt (pre.length * 5 + 2)
          have y3 := hown1.frozenAt (pre.length * 5 + 3)
          have y4 := hown1.frozenAt (pre.length * 5 + 4)
          rw [hrc0.out] at z0
          rw [hrc1.out] at z1
          rw [hrc2.out] at z2
          rw [hrc3.out] at z3
          rw [hrc4.out] at z4
          have HOWN := Lib.hid hown1
          have HAT := Lib.hid hat
          have hggo : (Value.slice (some ⟨gg, 0, none⟩) (pre.length + 1) cap1).ownBlock ≠ some bo := fun e => hggb (by simpa [Value.ownBlock] using e)
          have HC0 : Hid (Chg w4 w5 (fun k => k = bo ∨ (Value.slice As pre.length cs').ownBlock = some k)) := (((Chg.refl w4 _).alloc _).drew).trans hch1 (fun k _ h => Or.inr h.symm)
          have HTG : Hid (∀ k, k < w4.heap.size → k = gg → (k = bo ∨ (Value.slice As pre.length cs').ownBlock = some k)) := fun k hk e => by
            subst e
            rcases hat with h | h
            · exact Or.inr h
            · omega
          have HTB : Hid (∀ k, k < w4.heap.size → k = bo → (k = bo ∨ (Value.slice As pre.length cs').ownBlock = some k)) := fun k _ e => Or.inl e
          clear hown1 hat hch1 hgrow
          refine hK.out _ _ ?_ (fun hHeld3 => ?_)
          · (try dsimp only)
            refine cells5 (t := 33) ?_
            repeat (first | with_reducible exact hx1 | with_reducible exact hx2 | with_reducible refine Holds.far ?_ hxgg _ | with_reducible refine Holds.far ?_ hxb _ | with_reducible refine Holds.alloc ?_ _ | with_reducible refine Holds.drew ?_)
          clear hK K hHeld2
          (try simp only [Act.put, List.setIfInBounds_toArray, List.set_cons_zero, List.set_cons_succ])
          refine wpAnyH_take (i := 5) (v := ?_) rfl (by kernel_rfl) (by kernel_rfl) (by kernel_rfl) (fun _ _ _ h => h) (Or.inl ⟨by kernel_rfl, ?_⟩) (by assumption) ?_
          rotate_left
          · (intro w hSw; (try dsimp only at hSw); go_simp; (first | done | with_reducible rfl))
          (try simp only [Act.put, List.setIfInBounds_toArray, List.set_cons_zero, List.set_cons_succ])
          refine wpAnyH_ready (rs := [6, 7]) (by kernel_rfl) (by simp) ?_
          refine AllReadyH.cons rfl (fun K hK => ?_) ?_
          · skip
            go_simp
            refine hK.out _ _ ?_ (fun hHeld4 => ?_)
            · (try dsimp only)
              refine cells5 (t := 33) ?_
              repeat (first | with_reducible exact hx1 | with_reducible exact hx2 | with_reducible refine Holds.far ?_ hxgg _ | with_reducible refine Holds.far ?_ hxb _ | with_reducible refine Holds.alloc ?_ _ | with_reducible refine Holds.drew ?_)
            clear hK K hHeld3
            (try simp only [Act.put, List.setIfInBounds_toArray, List.set_cons_zero, List.set_cons_succ])
            refine wpAnyH_ready (rs := [7]) (by kernel_rfl) (by simp) ?_
            refine AllReadyH.cons rfl (fun K hK => ?_) AllReadyH.nil
            go_simp
            refine hK.out _ _ ?_ (fun hHeld5 => ?_)
            · (try dsimp only)
              refine cells5 (t := 33) ?_
              repeat (first | with_reducible exact hx1 | with_reducible exact hx2 | with_reducible refine Holds.far ?_ hxgg _ | with_reducible refine Holds.far ?_ hxb _ | with_reducible refine Holds.alloc ?_ _ | with_reducible refine Holds.drew ?_)
            clear hK K hHeld4
            (try simp only [Act.put, List.setIfInBounds_toArray, List.set_cons_zero, List.set_cons_succ])
            refine wpAnyH_done (by kernel_rfl) ?_ _
            clear hHeld5
            go_wp2_with fail
            refine callsWith (fun W => Chg w4 W (fun k => k = bo ∨ (Value.slice As pre.length cs').ownBlock = some k) ∧ Holds W bk tK #[.int .u8 (x.kind : Int)] ∧ Holds W bo tL #[.slice (some ⟨gg, 0, none⟩) (pre.length + 1) cap1] ∧ Holds W bw tW #[.func (.func 45) #[] #[.pointer (some ⟨bk, 0, none⟩), .pointer (some ⟨bo, 0, none⟩), .pointer (some ⟨bw, 0, none⟩)]] ∧ W.ownsRow B tS 5 (.slice (some ⟨gg, 0, none⟩) (pre.length + 1) cap1) (pre.length + 1) ((((((rowCells pre kvs ++ ([.int .u8 0, .string ⟨#[]⟩, .string ⟨#[]⟩, .string ⟨#[]⟩, .slice none 0 0] : List Value)).set (pre.length * 5) (.int .u8 (x.kind : Int))).set (pre.length * 5 + 1) (.string ⟨x.text.toArray⟩)).set (pre.length * 5 + 2) (.string ⟨x.sub.toArray⟩)).set (pre.length * 5 + 3) (.string ⟨x.see.toArray⟩)).set (pre.length * 5 + 4) (.slice vA x.kids.length vc))) ⟨?_, ?_, ?_, ?_, ?_⟩ ?_
            · repeat (first | with_reducible exact HC0.out | with_reducible refine Chg.step ?_ HTG.out | with_reducible refine Chg.step ?_ HTB.out)
            · repeat (first | with_reducible exact hk5 | with_reducible refine Holds.far ?_ hkgg _ | with_reducible refine Holds.far ?_ hko _)
            · show Holds _ bo tL ((#[.slice As pre.length cs'] : Array Value).setIfInBounds 0 (.slice (some ⟨gg, 0, none⟩) (pre.length + 1) cap1))
              repeat (first | with_reducible exact hh1 | with_reducible refine Holds.set ?_ _ _ | with_reducible refine Holds.far ?_ hbgg _)
            · repeat (first | with_reducible exact hw5 | with_reducible refine Holds.far ?_ hwgg _ | with_reducible refine Holds.far ?_ hwo _)
            · repeat (first | with_reducible refine (World.ownsRow.stored ?_ _ _).1 | with_reducible refine ownsRow_setCell_other ?_ hggo _)
              exact HOWN.out
            rintro ⟨c1, c2, c3, c4, c5⟩
            have hfs : ∀ b, (Fz b ∨ (wr.heap.size + 2 ≤ b ∧ b < w4.heap.size)) → ¬ (b = bo ∨ (Value.slice As pre.length cs').ownBlock = some b) := fun b hb h => by
              rcases hb with hb | hb
              · have := HFZ.out b hb
                rcases h with h | h
                · exact this.2.1 h
                · exact this.2.2 h
              · rcases h with h | h
                · omega
                · have := (HVL.out _ h).2; omega
            have hrow := added_row (z0 := .int .u8 0) (z1 := .string ⟨#[]⟩) (z2 := .string ⟨#[]⟩) (z3 := .string ⟨#[]⟩) (z4 := .slice none 0 0) (kv := .slice vA x.kids.length vc) (F := fun b => Fz b ∨ (wr.heap.size + 2 ≤ b ∧ b < w4.heap.size)) (S := (fun k => k = bo ∨ (Value.slice As pre.length cs').ownBlock = some k)) HKL.out HRL.out (fun j y ku h1 h2 => (HKFF.out j y ku h1 h2).keep (fun _ h => .inl h) (fun _ _ _ h => h)) (HKX.out.keep (fun _ h => .inr h) (fun _ _ _ h => h)) c1 hfs c5
            have hszW := c1.size
            have hst5 : EachSt _ B bk bo bw x.kind (pre ++ [x]) (.slice (some ⟨gg, 0, none⟩) (pre.length + 1) cap1) := ⟨c2, c3, c4, ⟨_, hrow, fun b hb => ⟨by
                rcases hb with hb | hb
                · have := HFZ.out b hb; omega
                · omega, fun e => hfs b hb (.inl e), fun e => by
                simp only [Value.ownBlock, Option.some.injEq] at e
                subst e
                rcases HAT.out with h | h
                · exact hfs _ hb (.inr h)
                · rcases hb with hb | hb
                  · have := (HFZ.out _ hb).1; omega
                  · omega⟩⟩, hBk, hBo, hBw⟩
            have hbW := c1.toBelow hBw4 (fun k h => by
              rcases h with h | h
              · omega
              · exact (HVL.out _ h).1)
            refine (HIH.out (manyL x.kids) (by omega) x.kids (Nat.le_refl _) (by omega) _ _ B bk bo bw x.kind (pre ++ [x]) _ (HKF4.out.under hbW (fun _ h => h)) hst5 (by simp; omega)).mono ?_
            rintro e w6 ⟨rfl, vo2, hst6, hb6⟩
            have HST6 := Lib.hid hst6
            have HB6 := Lib.hid ((HBL.out.trans ((HB4.out.mono hBs).trans hbW)).trans hb6)
            clear hst6 hb6 hst5 hrow c1 c2 c3 c4 c5 hbW hfs
            go_wp2
            go_roundg (gk - 1)
            case measure => omega
            case rel => exact ⟨j + 1, by omega, by go_num, ⟨vo2, by rw [HTK3.out]; exact HST6.out⟩, HB6.out⟩
          refine AllReadyH.cons rfl (fun K hK => ?_) AllReadyH.nil
          go_simp
          refine hK.out _ _ ?_ (fun hHeld4 => ?_)
          · (try dsimp only)
            refine cells5 (t := 33) ?_
            repeat (first | with_reducible exact hx1 | with_reducible exact hx2 | with_reducible refine Holds.far ?_ hxgg _ | with_reducible refine Holds.far ?_ hxb _ | with_reducible refine Holds.alloc ?_ _ | with_reducible refine Holds.drew ?_)
          clear hK K hHeld3
          (try simp only [Act.put, List.setIfInBounds_toArray, List.set_cons_zero, List.set_cons_succ])
          refine wpAnyH_ready (rs := [6]) (by kernel_rfl) (by simp) ?_
          refine AllReadyH.cons rfl (fun K hK => ?_) AllReadyH.nil
          go_simp
          refine hK.out _ _ ?_ (fun hHeld5 => ?_)
          · (try dsimp only)
            refine cells5 (t := 33) ?_
            repeat (first | with_reducible exact hx1 | with_reducible exact hx2 | with_reducible refine Holds.far ?_ hxgg _ | with_reducible refine Holds.far ?_ hxb _ | with_reducible refine Holds.alloc ?_ _ | with_reducible refine Holds.drew ?_)
          clear hK K hHeld4
          (try simp only [Act.put, List.setIfInBounds_toArray, List.set_cons_zero, List.set_cons_succ])
          refine wpAnyH_done (by kernel_rfl) ?_ _
          clear hHeld5
          go_wp2_with fail
          refine callsWith (fun W => Chg w4 W (fun k => k = bo ∨ (Value.slice As pre.length cs').ownBlock = some k) ∧ Holds W bk tK #[.int .u8 (x.kind : Int)] ∧ Holds W bo tL #[.slice (some ⟨gg, 0, none⟩) (pre.length + 1) cap1] ∧ Holds W bw tW #[.func (.func 45) #[] #[.pointer (some ⟨bk, 0, none⟩), .pointer (some ⟨bo, 0, none⟩), .pointer (some ⟨bw, 0, none⟩)]] ∧ W.ownsRow B tS 5 (.slice (some ⟨gg, 0, none⟩) (pre.length + 1) cap1) (pre.length + 1) ((((((rowCells pre kvs ++ ([.int .u8 0, .string ⟨#[]⟩, .string ⟨#[]⟩, .string ⟨#[]⟩, .slice none 0 0] : List Value)).set (pre.length * 5) (.int .u8 (x.kind : Int))).set (pre.length * 5 + 1) (.string ⟨x.text.toArray⟩)).set (pre.length * 5 + 2) (.string ⟨x.sub.toArray⟩)).set (pre.length * 5 + 3) (.string ⟨x.see.toArray⟩)).set (pre.length * 5 + 4) (.slice vA x.kids.length vc))) ⟨?_, ?_, ?_, ?_, ?_⟩ ?_
          · repeat (first | with_reducible exact HC0.out | with_reducible refine Chg.step ?_ HTG.out | with_reducible refine Chg.step ?_ HTB.out)
          · repeat (first | with_reducible exact hk5 | with_reducible refine Holds.far ?_ hkgg _ | with_reducible refine Holds.far ?_ hko _)
          · show Holds _ bo tL ((#[.slice As pre.length cs'] : Array Value).setIfInBounds 0 (.slice (some ⟨gg, 0, none⟩) (pre.length + 1) cap1))
            repeat (first | with_reducible exact hh1 | with_reducible refine Holds.set ?_ _ _ | with_reducible refine Holds.far ?_ hbgg _)
          · repeat (first | with_reducible exact hw5 | with_reducible refine Holds.far ?_ hwgg _ | with_reducible refine Holds.far ?_ hwo _)
          · repeat (first | with_reducible refine (World.ownsRow.stored ?_ _ _).1 | with_reducible refine ownsRow_setCell_other ?_ hggo _)
            exact HOWN.out
          rintro ⟨c1, c2, c3, c4, c5⟩
          have hfs : ∀ b, (Fz b ∨ (wr.heap.size + 2 ≤ b ∧ b < w4.heap.size)) → ¬ (b = bo ∨ (Value.slice As pre.length cs').ownBlock = some b) := fun b hb h => by
            rcases hb with hb | hb
            · have := HFZ.out b hb
              rcases h with h | h
              · exact this.2.1 h
              · exact this.2.2 h
            · rcases h with h | h
              · omega
              · have := (HVL.out _ h).2; omega
          have hrow := added_row (z0 := .int .u8 0) (z1 := .string ⟨#[]⟩) (z2 := .string ⟨#[]⟩) (z3 := .string ⟨#[]⟩) (z4 := .slice none 0 0) (kv := .slice vA x.kids.length vc) (F := fun b => Fz b ∨ (wr.heap.size + 2 ≤ b ∧ b < w4.heap.size)) (S := (fun k => k = bo ∨ (Value.slice As pre.length cs').ownBlock = some k)) HKL.out HRL.out (fun j y ku h1 h2 => (HKFF.out j y ku h1 h2).keep (fun _ h => .inl h) (fun _ _ _ h => h)) (HKX.out.keep (fun _ h => .inr h) (fun _ _ _ h => h)) c1 hfs c5
          have hszW := c1.size
          have hst5 : EachSt _ B bk bo bw x.kind (pre ++ [x]) (.slice (some ⟨gg, 0, none⟩) (pre.length + 1) cap1) := ⟨c2, c3, c4, ⟨_, hrow, fun b hb => ⟨by
              rcases hb with hb | hb
              · have := HFZ.out b hb; omega
              · omega, fun e => hfs b hb (.inl e), fun e => by
              simp only [Value.ownBlock, Option.some.injEq] at e
              subst e
              rcases HAT.out with h | h
              · exact hfs _ hb (.inr h)
              · rcases hb with hb | hb
                · have := (HFZ.out _ hb).1; omega
                · omega⟩⟩, hBk, hBo, hBw⟩
          have hbW := c1.toBelow hBw4 (fun k h => by
            rcases h with h | h
            · omega
            · exact (HVL.out _ h).1)
          refine (HIH.out (manyL x.kids) (by omega) x.kids (Nat.le_refl _) (by omega) _ _ B bk bo bw x.kind (pre ++ [x]) _ (HKF4.out.under hbW (fun _ h => h)) hst5 (by simp; omega)).mono ?_
          rintro e w6 ⟨rfl, vo2, hst6, hb6⟩
          have HST6 := Lib.hid hst6
          have HB6 := Lib.hid ((HBL.out.trans ((HB4.out.mono hBs).trans hbW)).trans hb6)
          clear hst6 hb6 hst5 hrow c1 c2 c3 c4 c5 hbW hfs
          go_wp2
          go_roundg (gk - 1)
          case measure => omega
          case rel => exact ⟨j + 1, by omega, by go_num, ⟨vo2, by rw [HTK3.out]; exact HST6.out⟩, HB6.out⟩
        refine AllReadyH.cons rfl (fun K hK => ?_) AllReadyH.nil
        go_simp
        refine hK.out _ _ ?_ (fun hHeld1 => ?_)
        · (try dsimp only)
          refine cells5 (t := 33) ?_
          repeat (first | with_reducible exact hx1 | with_reducible exact hx2 | with_reducible refine Holds.far ?_ hxgg _ | with_reducible refine Holds.far ?_ hxb _ | with_reducible refine Holds.alloc ?_ _ | with_reducible refine Holds.drew ?_)
        clear hK K hHeld0
        (try simp only [Act.put, List.setIfInBounds_toArray, List.set_cons_zero, List.set_cons_succ])
        refine wpAnyH_ready (rs := [0]) (by kernel_rfl) (by simp) ?_
        refine AllReadyH.cons rfl (fun K hK => ?_) AllReadyH.nil
        go_simp
        refine hK.out _ _ ?_ (fun hHeld2 => ?_)
        · (try dsimp only)
          refine cells5 (t := 33) ?_
          repeat (first | with_reducible exact hx1 | with_reducible exact hx2 | with_reducible refine Holds.far ?_ hxgg _ | with_reducible refine Holds.far ?_ hxb _ | with_reducible refine Holds.alloc ?_ _ | with_reducible refine Holds.drew ?_)
        clear hK K hHeld1
        (try simp only [Act.put, List.setIfInBounds_toArray, List.set_cons_zero, List.set_cons_succ])
        refine wpAnyH_take (i := 2) (v := ?_) rfl (by kernel_rfl) (by kernel_rfl) (by kernel_rfl) (fun _ _ _ h => h) (Or.inl ⟨by kernel_rfl, ?_⟩) (by assumption) ?_
        rotate_left
        · (intro w hSw; (try dsimp only at hSw); go_simp; (first | done | with_reducible rfl))
        (try simp only [Act.put, List.setIfInBounds_toArray, List.set_cons_zero, List.set_cons_succ])
        refine wpAnyH_ready (rs := [4]) (by kernel_rfl) (by simp) ?_
        refine AllReadyH.cons rfl (fun K hK => ?_) AllReadyH.nil
        refine step_append_lies _ (by rfl) _ _ _ (by rfl) B 33 i0 _ 5 80 Tryz.underlying22 hi0 hz0 hz1 hz2 rfl (by omega) (.slice As pre.length cs') pre.length (rowCells pre kvs) (by rfl) ((hso.alloc _).drew)
          ⟨w4.heap.size, 0, none⟩ 1 1 [.int .u8 0, .string ⟨#[]⟩, .string ⟨#[]⟩, .string ⟨#[]⟩, .slice none 0 0] (by rfl) (by rfl) (World.news_of_block (cs := #[.int .u8 0, .string ⟨#[]⟩, .string ⟨#[]⟩, .string ⟨#[]⟩, .slice none 0 0]) (t := 33) (fr := (0, 0)) (heap_alloc_new w4 _)) (by simp [Value.oneCell'])
          (by omega) (by unfold maxLen; omega) (by omega) (by simp; omega) (w4.heap.size + 1) (by simp) ?_
        intro gg cap1 w5 hown1 hgrow hat hlt5
        have hggb : gg ≠ bo := fun e => by
          rcases hat with h | h
          · exact hbs1 (h.trans (by rw [e]))
          · omega
        have hbgg : bo ≠ gg := fun e => hggb e.symm
        have hxgg : wr.heap.size + 1 ≠ gg := fun e => by
          rcases hat with h | h
          · exact hxs1 (h.trans (by rw [e]))
          · omega
        have hsgg : wr.heap.size ≠ gg := fun e => by
          rcases hat with h | h
          · exact hss1 (h.trans (by rw [e]))
          · omega
        have hkgg : bk ≠ gg := fun e => by
          rcases hat with h | h
          · exact HST4.out.ne.1 (h.trans (by rw [e]))
          · omega
        have hwgg : bw ≠ gg := fun e => by
          rcases hat with h | h
          · exact HST4.out.ne.2.2 (h.trans (by rw [e]))
          · omega
        have hsbo : wr.heap.size ≠ bo := by omega
        have hch1 := Chg.grown hgrow
        have hh1 := hch1.holds (fun h => hbs1 h.symm) ((g1.alloc _).drew)
        have hx2 := hch1.holds (fun h => hxs1 h.symm) ((hx1.alloc _).drew)
        have hs5 := hch1.holds (fun h => hss1 h.symm) ((HS4.out.alloc _).drew)
        have hk5 := hch1.holds (fun h => HST4.out.ne.1 h.symm) ((HST4.out.hk.alloc _).drew)
        have hw5 := hch1.holds (fun h => HST4.out.ne.2.2 h.symm) ((HST4.out.hw.alloc _).drew)
        have k1 := hh1.cell 0
        have k2 := hh1.free 0
        have s4 := hs5.cell 4
        have q3 := hw5.cell 0
        have z0 := hown1.cellAt (pre.length * 5) (by omega)
        have z1 := hown1.cellAt (pre.length * 5 + 1) (by omega)
        have z2 := hown1.cellAt (pre.length * 5 + 2) (by omega)
        have z3 := hown1.cellAt (pre.length * 5 + 3) (by omega)
        have z4 := hown1.cellAt (pre.length * 5 + 4) (by omega)
        have y0 := hown1.frozenAt (pre.length * 5)
        have y1 := hown1.frozenAt (pre.length * 5 + 1)
        have y2 := hown1.frozenAt (pre.length * 5 + 2)
        have y3 := hown1.frozenAt (pre.length * 5 + 3)
        have y4 := hown1.frozenAt (pre.length * 5 + 4)
        rw [hrc0.out] at z0
        rw [hrc1.out] at z1
        rw [hrc2.out] at z2
        rw [hrc3.out] at z3
        rw [hrc4.out] at z4
        have HOWN := Lib.hid hown1
        have HAT := Lib.hid hat
        have hggo : (Value.slice (some ⟨gg, 0, none⟩) (pre.length + 1) cap1).ownBlock ≠ some bo := fun e => hggb (by simpa [Value.ownBlock] using e)
        have HC0 : Hid (Chg w4 w5 (fun k => k = bo ∨ (Value.slice As pre.length cs').ownBlock = some k)) := (((Chg.refl w4 _).alloc _).drew).trans hch1 (fun k _ h => Or.inr h.symm)
        have HTG : Hid (∀ k, k < w4.heap.size → k = gg → (k = bo ∨ (Value.slice As pre.length cs').ownBlock = some k)) := fun k hk e => by
          subst e
          rcases hat with h | h
          · exact Or.inr h
          · omega
        have HTB : Hid (∀ k, k < w4.heap.size → k = bo → (k = bo ∨ (Value.slice As pre.length cs').ownBlock = some k)) := fun k _ e => Or.inl e
        clear hown1 hat hch1 hgrow
        refine hK.out _ _ ?_ (fun hHeld3 => ?_)
        · (try dsimp only)
          refine cells5 (t := 33) ?_
          repeat (first | with_reducible exact hx1 | with_reducible exact hx2 | with_reducible refine Holds.far ?_ hxgg _ | with_reducible refine Holds.far ?_ hxb _ | with_reducible refine Holds.alloc ?_ _ | with_reducible refine Holds.drew ?_)
        clear hK K hHeld2
        (try simp only [Act.put, List.setIfInBounds_toArray, List.set_cons_zero, List.set_cons_succ])
        refine wpAnyH_take (i := 5) (v := ?_) rfl (by kernel_rfl) (by kernel_rfl) (by kernel_rfl) (fun _ _ _ h => h) (Or.inl ⟨by kernel_rfl, ?_⟩) (by assumption) ?_
        rotate_left
        · (intro w hSw; (try dsimp only at hSw); go_simp; (first | done | with_reducible rfl))
        (try simp only [Act.put, List.setIfInBounds_toArray, List.set_cons_zero, List.set_cons_succ])
        refine wpAnyH_ready (rs := [6, 7]) (by kernel_rfl) (by simp) ?_
        refine AllReadyH.cons rfl (fun K hK => ?_) ?_
        · skip
          go_simp
          refine hK.out _ _ ?_ (fun hHeld4 => ?_)
          · (try dsimp only)
            refine cells5 (t := 33) ?_
            repeat (first | with_reducible exact hx1 | with_reducible exact hx2 | with_reducible refine Holds.far ?_ hxgg _ | with_reducible refine Holds.far ?_ hxb _ | with_reducible refine Holds.alloc ?_ _ | with_reducible refine Holds.drew ?_)
          clear hK K hHeld3
          (try simp only [Act.put, List.setIfInBounds_toArray, List.set_cons_zero, List.set_cons_succ])
          refine wpAnyH_ready (rs := [7]) (by kernel_rfl) (by simp) ?_
          refine AllReadyH.cons rfl (fun K hK => ?_) AllReadyH.nil
          go_simp
          refine hK.out _ _ ?_ (fun hHeld5 => ?_)
          · (try dsimp only)
            refine cells5 (t := 33) ?_
            repeat (first | with_reducible exact hx1 | with_reducible exact hx2 | with_reducible refine Holds.far ?_ hxgg _ | with_reducible refine Holds.far ?_ hxb _ | with_reducible refine Holds.alloc ?_ _ | with_reducible refine Holds.drew ?_)
          clear hK K hHeld4
          (try simp only [Act.put, List.setIfInBounds_toArray, List.set_cons_zero, List.set_cons_succ])
          refine wpAnyH_done (by kernel_rfl) ?_ _
          clear hHeld5
          go_wp2_with fail
          refine callsWith (fun W => Chg w4 W (fun k => k = bo ∨ (Value.slice As pre.length cs').ownBlock = some k) ∧ Holds W bk tK #[.int .u8 (x.kind : Int)] ∧ Holds W bo tL #[.slice (some ⟨gg, 0, none⟩) (pre.length + 1) cap1] ∧ Holds W bw tW #[.func (.func 45) #[] #[.pointer (some ⟨bk, 0, none⟩), .pointer (some ⟨bo, 0, none⟩), .pointer (some ⟨bw, 0, none⟩)]] ∧ W.ownsRow B tS 5 (.slice (some ⟨gg, 0, none⟩) (pre.length + 1) cap1) (pre.length + 1) ((((((rowCells pre kvs ++ ([.int .u8 0, .string ⟨#[]⟩, .string ⟨#[]⟩, .string ⟨#[]⟩, .slice none 0 0] : List Value)).set (pre.length * 5) (.int .u8 (x.kind : Int))).set (pre.length * 5 + 1) (.string ⟨x.text.toArray⟩)).set (pre.length * 5 + 2) (.string ⟨x.sub.toArray⟩)).set (pre.length * 5 + 3) (.string ⟨x.see.toArray⟩)).set (pre.length * 5 + 4) (.slice vA x.kids.length vc))) ⟨?_, ?_, ?_, ?_, ?_⟩ ?_
          · repeat (first | with_reducible exact HC0.out | with_reducible refine Chg.step ?_ HTG.out | with_reducible refine Chg.step ?_ HTB.out)
          · repeat (first | with_reducible exact hk5 | with_reducible refine Holds.far ?_ hkgg _ | with_reducible refine Holds.far ?_ hko _)
          · show Holds _ bo tL ((#[.slice As pre.length cs'] : Array Value).setIfInBounds 0 (.slice (some ⟨gg, 0, none⟩) (pre.length + 1) cap1))
            repeat (first | with_reducible exact hh1 | with_reducible refine Holds.set ?_ _ _ | with_reducible refine Holds.far ?_ hbgg _)
          · repeat (first | with_reducible exact hw5 | with_reducible refine Holds.far ?_ hwgg _ | with_reducible refine Holds.far ?_ hwo _)
          · repeat (first | with_reducible refine (World.ownsRow.stored ?_ _ _).1 | with_reducible refine ownsRow_setCell_other ?_ hggo _)
            exact HOWN.out
          rintro ⟨c1, c2, c3, c4, c5⟩
          have hfs : ∀ b, (Fz b ∨ (wr.heap.size + 2 ≤ b ∧ b < w4.heap.size)) → ¬ (b = bo ∨ (Value.slice As pre.length cs').ownBlock = some b) := fun b hb h => by
            rcases hb with hb | hb
            · have := HFZ.out b hb
              rcases h with h | h
              · exact this.2.1 h
              · exact this.2.2 h
            · rcases h with h | h
              · omega
              · have := (HVL.out _ h).2; omega
          have hrow := added_row (z0 := .int .u8 0) (z1 := .string ⟨#[]⟩) (z2 := .string ⟨#[]⟩) (z3 := .string ⟨#[]⟩) (z4 := .slice none 0 0) (kv := .slice vA x.kids.length vc) (F := fun b => Fz b ∨ (wr.heap.size + 2 ≤ b ∧ b < w4.heap.size)) (S := (fun k => k = bo ∨ (Value.slice As pre.length cs').ownBlock = some k)) HKL.out HRL.out (fun j y ku h1 h2 => (HKFF.out j y ku h1 h2).keep (fun _ h => .inl h) (fun _ _ _ h => h)) (HKX.out.keep (fun _ h => .inr h) (fun _ _ _ h => h)) c1 hfs c5
          have hszW := c1.size
          have hst5 : EachSt _ B bk bo bw x.kind (pre ++ [x]) (.slice (some ⟨gg, 0, none⟩) (pre.length + 1) cap1) := ⟨c2, c3, c4, ⟨_, hrow, fun b hb => ⟨by
              rcases hb with hb | hb
              · have := HFZ.out b hb; omega
              · omega, fun e => hfs b hb (.inl e), fun e => by
              simp only [Value.ownBlock, Option.some.injEq] at e
              subst e
              rcases HAT.out with h | h
              · exact hfs _ hb (.inr h)
              · rcases hb with hb | hb
                · have := (HFZ.out _ hb).1; omega
                · omega⟩⟩, hBk, hBo, hBw⟩
          have hbW := c1.toBelow hBw4 (fun k h => by
            rcases h with h | h
            · omega
            · exact (HVL.out _ h).1)
          refine (HIH.out (manyL x.kids) (by omega) x.kids (Nat.le_refl _) (by omega) _ _ B bk bo bw x.kind (pre ++ [x]) _ (HKF4.out.under hbW (fun _ h => h)) hst5 (by simp; omega)).mono ?_
          rintro e w6 ⟨rfl, vo2, hst6, hb6⟩
          have HST6 := Lib.hid hst6
          have HB6 := Lib.hid ((HBL.out.trans ((HB4.out.mono hBs).trans hbW)).trans hb6)
          clear hst6 hb6 hst5 hrow c1 c2 c3 c4 c5 hbW hfs
          go_wp2
          go_roundg (gk - 1)
          case measure => omega
          case rel => exact ⟨j + 1, by omega, by go_num, ⟨vo2, by rw [HTK3.out]; exact HST6.out⟩, HB6.out⟩
        refine AllReadyH.cons rfl (fun K hK => ?_) AllReadyH.nil
        go_simp
        refine hK.out _ _ ?_ (fun hHeld4 => ?_)
        · (try dsimp only)
          refine cells5 (t := 33) ?_
          repeat (first | with_reducible exact hx1 | with_reducible exact hx2 | with_reducible refine Holds.far ?_ hxgg _ | with_reducible refine Holds.far ?_ hxb _ | with_reducible refine Holds.alloc ?_ _ | with_reducible refine Holds.drew ?_)
        clear hK K hHeld3
        (try simp only [Act.put, List.setIfInBounds_toArray, List.set_cons_zero, List.set_cons_succ])
        refine wpAnyH_ready (rs := [6]) (by kernel_rfl) (by simp) ?_
        refine AllReadyH.cons rfl (fun K hK => ?_) AllReadyH.nil
        go_simp
        refine hK.out _ _ ?_ (fun hHeld5 => ?_)
        · (try dsimp only)
          refine cells5 (t := 33) ?_
          repeat (first | with_reducible exact hx1 | with_reducible exact hx2 | with_reducible refine Holds.far ?_ hxgg _ | with_reducible refine Holds.far ?_ hxb _ | with_reducible refine Holds.alloc ?_ _ | with_reducible refine Holds.drew ?_)
        clear hK K hHeld4
        (try simp only [Act.put, List.setIfInBounds_toArray, List.set_cons_zero, List.set_cons_succ])
        refine wpAnyH_done (by kernel_rfl) ?_ _
        clear hHeld5
        go_wp2_with fail
        refine callsWith (fun W => Chg w4 W (fun k => k = bo ∨ (Value.slice As pre.length cs').ownBlock = some k) ∧ Holds W bk tK #[.int .u8 (x.kind : Int)] ∧ Holds W bo tL #[.slice (some ⟨gg, 0, none⟩) (pre.length + 1) cap1] ∧ Holds W bw tW #[.func (.func 45) #[] #[.pointer (some ⟨bk, 0, none⟩), .pointer (some ⟨bo, 0, none⟩), .pointer (some ⟨bw, 0, none⟩)]] ∧ W.ownsRow B tS 5 (.slice (some ⟨gg, 0, none⟩) (pre.length + 1) cap1) (pre.length + 1) ((((((rowCells pre kvs ++ ([.int .u8 0, .string ⟨#[]⟩, .string ⟨#[]⟩, .string ⟨#[]⟩, .slice none 0 0] : List Value)).set (pre.length * 5) (.int .u8 (x.kind : Int))).set (pre.length * 5 + 1) (.string ⟨x.text.toArray⟩)).set (pre.length * 5 + 2) (.string ⟨x.sub.toArray⟩)).set (pre.length * 5 + 3) (.string ⟨x.see.toArray⟩)).set (pre.length * 5 + 4) (.slice vA x.kids.length vc))) ⟨?_, ?_, ?_, ?_, ?_⟩ ?_
        · repeat (first | with_reducible exact HC0.out | with_reducible refine Chg.step ?_ HTG.out | with_reducible refine Chg.step ?_ HTB.out)
        · repeat (first | with_reducible exact hk5 | with_reducible refine Holds.far ?_ hkgg _ | with_reducible refine Holds.far ?_ hko _)
        · show Holds _ bo tL ((#[.slice As pre.length cs'] : Array Value).setIfInBounds 0 (.slice (some ⟨gg, 0, none⟩) (pre.length + 1) cap1))
          repeat (first | with_reducible exact hh1 | with_reducible refine Holds.set ?_ _ _ | with_reducible refine Holds.far ?_ hbgg _)
        · repeat (first | with_reducible exact hw5 | with_reducible refine Holds.far ?_ hwgg _ | with_reducible refine Holds.far ?_ hwo _)
        · repeat (first | with_reducible refine (World.ownsRow.stored ?_ _ _).1 | with_reducible refine ownsRow_setCell_other ?_ hggo _)
          exact HOWN.out
        rintro ⟨c1, c2, c3, c4, c5⟩
        have hfs : ∀ b, (Fz b ∨ (wr.heap.size + 2 ≤ b ∧ b < w4.heap.size)) → ¬ (b = bo ∨ (Value.slice As pre.length cs').ownBlock = some b) := fun b hb h => by
          rcases hb with hb | hb
          · have := HFZ.out b hb
            rcases h with h | h
            · exact this.2.1 h
            · exact this.2.2 h
          · rcases h with h | h
            · omega
            · have := (HVL.out _ h).2; omega
        have hrow := added_row (z0 := .int .u8 0) (z1 := .string ⟨#[]⟩) (z2 := .string ⟨#[]⟩) (z3 := .string ⟨#[]⟩) (z4 := .slice none 0 0) (kv := .slice vA x.kids.length vc) (F := fun b => Fz b ∨ (wr.heap.size + 2 ≤ b ∧ b < w4.heap.size)) (S := (fun k => k = bo ∨ (Value.slice As pre.length cs').ownBlock = some k)) HKL.out HRL.out (fun j y ku h1 h2 => (HKFF.out j y ku h1 h2).keep (fun _ h => .inl h) (fun _ _ _ h => h)) (HKX.out.keep (fun _ h => .inr h) (fun _ _ _ h => h)) c1 hfs c5
        have hszW := c1.size
        have hst5 : EachSt _ B bk bo bw x.kind (pre ++ [x]) (.slice (some ⟨gg, 0, none⟩) (pre.length + 1) cap1) := ⟨c2, c3, c4, ⟨_, hrow, fun b hb => ⟨by
            rcases hb with hb | hb
            · have := HFZ.out b hb; omega
            · omega, fun e => hfs b hb (.inl e), fun e => by
            simp only [Value.ownBlock, Option.some.injEq] at e
            subst e
            rcases HAT.out with h | h
            · exact hfs _ hb (.inr h)
            · rcases hb with hb | hb
              · have := (HFZ.out _ hb).1; omega
              · omega⟩⟩, hBk, hBo, hBw⟩
        have hbW := c1.toBelow hBw4 (fun k h => by
          rcases h with h | h
          · omega
          · exact (HVL.out _ h).1)
        refine (HIH.out (manyL x.kids) (by omega) x.kids (Nat.le_refl _) (by omega) _ _ B bk bo bw x.kind (pre ++ [x]) _ (HKF4.out.under hbW (fun _ h => h)) hst5 (by simp; omega)).mono ?_
        rintro e w6 ⟨rfl, vo2, hst6, hb6⟩
        have HST6 := Lib.hid hst6
        have HB6 := Lib.hid ((HBL.out.trans ((HB4.out.mono hBs).trans hbW)).trans hb6)
        clear hst6 hb6 hst5 hrow c1 c2 c3 c4 c5 hbW hfs
        go_wp2
        go_roundg (gk - 1)
        case measure => omega
        case rel => exact ⟨j + 1, by omega, by go_num, ⟨vo2, by rw [HTK3.out]; exact HST6.out⟩, HB6.out⟩
      · have HTK3 : Hid (acc ++ eachL (l.take (j + 1)) k = pre ++ eachL x.kids k) := by unfold Hid; rw [HTK2.out, if_neg hk, List.nil_append]
        have t1 : ((x.kind : Int) == (k : Int)) = false := by rw [beq_eq_false_iff_ne]; omega
        have t2 : (x.kind == k) = false := by rw [beq_eq_false_iff_ne]; exact hk
        clear hk
        go_wp2_with fail
        refine (HIH.out (manyL x.kids) (by omega) x.kids (Nat.le_refl _) (by omega) _ _ B bk bo bw k pre vo' (HKF.out.under (HAL.out.mono hBs) (fun _ h => h)) HST1.out (by omega)).mono ?_
        rintro e w2 ⟨rfl, vo2, hst2, hb2⟩
        have HST2 := Lib.hid hst2
        have HB2 := Lib.hid ((HBL.out.trans (HAL.out.mono hBs)).trans hb2)
        clear hst2 hb2
        go_wp2
        go_roundg (gk - 1)
        case measure => omega
        case rel => exact ⟨j + 1, by omega, by go_num, ⟨vo2, by rw [HTK3.out]; exact HST2.out⟩, HB2.out⟩
    · obtain rfl : j = n := by omega
      obtain ⟨⟨vo', hst⟩, hbl⟩ := HR.out
      rw [List.take_of_length_le (by rw [HN.out]; exact Nat.le_refl _)] at hst
      have HS2 := Lib.hid hst
      have HB2 := Lib.hid hbl
      clear hst hbl HR
      go_wp2
      go_end0
      exact ⟨rfl, vo', HS2.out, HB2.out⟩
end Go.Proofs.YtgiiglcgfbnaoaaGreatDoor
namespace Go.Bd
mutual
/-- what is written of a span, and whether it may be -/
def putF1 : Sp → Bs × Bool
  | ⟨k, t, u, v, kids⟩ =>
    if k = 0 then (esc t, true)
    else if k = 1 then ([42] ++ ((putF kids).1 ++ [42]), (putF kids).2)
    else if k = 2 then ([95] ++ ((putF kids).1 ++ [95]), (putF kids).2)
    else if k = 3 then ([96] ++ t ++ [96], true)
    else if k = 4 then ([60, 60] ++ t ++ [62, 62], true)
    else if k = 5 then ([40, 40] ++ (if parseB (textL t u v) = some (t, u, v) then textL t u v else []) ++ [41, 41], decide (parseB (textL t u v) = some (t, u, v)))
    else if k = 6 then ([94, 91] ++ ((putF kids).1 ++ [93]), (putF kids).2)
    else ([], false)
def putF : List Sp → Bs × Bool
  | [] => ([], true)
  | x :: l => if (putF1 x).2 = true then ((putF1 x).1 ++ (putF l).1, (putF l).2) else ((putF1 x).1, false)
end
mutual
/-- how much is written at most -/
def wl1 : Sp → Nat
  | ⟨_, t, u, v, kids⟩ => 2 * (t.length + u.length + v.length) + 6 + wlL kids
def wlL : List Sp → Nat
  | [] => 0
  | x :: l => wl1 x + wlL l
end
theorem textL_len (a b c : Bs) : (textL a b c).length ≤ a.length + b.length + c.length + 2 := by
  unfold textL
  simp only [List.length_append]
  split <;> split <;> simp <;> omega
mutual
theorem putF1_len : ∀ x : Sp, (putF1 x).1.length ≤ wl1 x
  | ⟨k, t, u, v, kids⟩ => by
    have ih := putF_len kids
    have h1 := esc_len t
    have h2 := textL_len t u v
    simp only [putF1, wl1]
    have h3 : (if parseB (textL t u v) = some (t, u, v) then textL t u v else []).length ≤ t.length + u.length + v.length + 2 := by
      split
      · exact h2
      · simp
    generalize (if parseB (textL t u v) = some (t, u, v) then textL t u v else []) = q at h3 ⊢
    repeat (split; · simp only [List.length_append, List.length_cons, List.length_nil]; omega)
    simp
theorem putF_len : ∀ l : List Sp, (putF l).1.length ≤ wlL l
  | [] => Nat.le_refl _
  | x :: l => by
    have h1 := putF1_len x
    have h2 := putF_len l
    simp only [putF, wlL]
    split
    · simp only [List.length_append]; omega
    · simp only; omega
end
mutual
theorem putF1_put : ∀ x : Sp, put1 x = if (putF1 x).2 = true then some (putF1 x).1 else none
  | ⟨k, t, u, v, kids⟩ => by
    have ih := putF_put kids
    simp only [putF1, put1]
    repeat (split; · (first | rfl | (rw [ih]; split <;> simp_all) | simp_all))
    simp
theorem putF_put : ∀ l : List Sp, putL l = if (putF l).2 = true then some (putF l).1 else none
  | [] => rfl
  | x :: l => by
    have h1 := putF1_put x
    have h2 := putF_put l
    simp only [putF, putL, h1]
    by_cases h3 : (putF1 x).2 = true
    · simp only [if_pos h3, Option.bind_some, h2]
      split <;> simp
    · simp only [if_neg h3]; simp
end
theorem putF_snoc : ∀ {l : List Sp} (x : Sp), (putF l).2 = true → putF (l ++ [x]) = ((putF l).1 ++ (putF1 x).1, (putF1 x).2)
  | [], x, _ => by
    simp only [List.nil_append, putF]
    split
    · rename_i h; rw [h]; simp
    · rename_i h; simp only [Bool.not_eq_true] at h; rw [h]
  | y :: l, x, h => by
    rw [List.cons_append, putF, putF]
    rw [putF] at h
    split
    · rename_i hy
      rw [if_pos hy] at h
      rw [putF_snoc x h, List.append_assoc]
    · rename_i hy
      rw [if_neg hy] at h
      cases h
theorem putF_stop : ∀ {l : List Sp} (m : List Sp), (putF l).2 = false → putF (l ++ m) = ((putF l).1, false)
  | [], m, h => by cases h
  | y :: l, m, h => by
    rw [List.cons_append, putF, putF]
    rw [putF] at h
    split
    · rename_i hy
      rw [if_pos hy] at h
      rw [putF_stop m h]
    · rfl
theorem putF_take {l : List Sp} {k : Nat} {x : Sp} (h : l[k]? = some x) (hk : (putF (l.take k)).2 = true) : putF (l.take (k + 1)) = ((putF (l.take k)).1 ++ (putF1 x).1, (putF1 x).2) := by
  rw [List.take_add_one, h]
  exact putF_snoc x hk
theorem putF_fail {l : List Sp} {k : Nat} {x : Sp} (h : l[k]? = some x) (hk : (putF (l.take k)).2 = true) (hx : (putF1 x).2 = false) : putF l = ((putF (l.take k)).1 ++ (putF1 x).1, false) := by
  have h1 := putF_take h hk
  have h2 : (putF (l.take (k + 1))).2 = false := by rw [h1]; exact hx
  have h3 := putF_stop (l.drop (k + 1)) h2
  rw [List.take_append_drop] at h3
  rw [h3, h1]
theorem wlL_app : ∀ a b : List Sp, wlL (a ++ b) = wlL a + wlL b
  | [], b => by simp [wlL]
  | x :: a, b => by rw [List.cons_append, wlL, wlL, wlL_app a b, Nat.add_assoc]
theorem wl_get {l : List Sp} {k : Nat} {x : Sp} (h : l[k]? = some x) : wlL (l.take k) + wl1 x ≤ wlL l := by
  have e : l = l.take (k + 1) ++ l.drop (k + 1) := (List.take_append_drop _ _).symm
  have e2 : l.take (k + 1) = l.take k ++ [x] := by rw [List.take_add_one, h]; rfl
  conv => rhs; rw [e, wlL_app, e2, wlL_app]
  simp only [wlL]; omega
theorem wl1_eq (x : Sp) : wl1 x = 2 * (x.text.length + x.sub.length + x.see.length) + 6 + wlL x.kids := by
  obtain ⟨k, t, u, v, ks⟩ := x
  simp only [wl1]
theorem putF1_eq (x : Sp) : putF1 x = if x.kind = 0 then (esc x.text, true)
    else if x.kind = 1 then ([42] ++ ((putF x.kids).1 ++ [42]), (putF x.kids).2)
    else if x.kind = 2 then ([95] ++ ((putF x.kids).1 ++ [95]), (putF x.kids).2)
    else if x.kind = 3 then ([96] ++ x.text ++ [96], true)
    else if x.kind = 4 then ([60, 60] ++ x.text ++ [62, 62], true)
    else if x.kind = 5 then ([40, 40] ++ (if parseB (textL x.text x.sub x.see) = some (x.text, x.sub, x.see) then textL x.text x.sub x.see else []) ++ [41, 41], decide (parseB (textL x.text x.sub x.see) = some (x.text, x.sub, x.see)))
    else if x.kind = 6 then ([94, 91] ++ ((putF x.kids).1 ++ [93]), (putF x.kids).2)
    else ([], false) := by
  obtain ⟨k, t, u, v, ks⟩ := x
  simp only [putF1]
theorem esc_snoc : ∀ (l : Bs) (c : UInt8), esc (l ++ [c]) = esc l ++ if escB c = true then [92, c] else [c]
  | [], c => by simp only [List.nil_append, esc]
  | a :: l, c => by
    rw [List.cons_append, esc, esc, esc_snoc l c]
    split <;> simp
/-- what a text is, asf spans that were written -/
theorem textOf_F (l : List Sp) : textOf l = if (putF l).2 = true ∧ faultsAt (putF l).1 = [] ∧ sameL (spansOf (putF l).1) l = true then some (putF l).1 else none := by
  unfold textOf
  rw [putF_put]
  cases h : (putF l).2 with
  | true => simp
  | false => simp
end Go.Bd
namespace Go.Proofs.YtgiiglcgfbnaoaaGreatDoor
open Go.RowKit Go.Bd Go.Shelf
/-- a builder that holds these bytes, though it may have been read -/
abbrev BldF (B b : Nat) (l : Bs) (w : World) : Prop := Lib.IsBuilderF 52 5 B b (Lib.byteCells l) w
/-- all blocks but the builder's own stand -/
abbrev Kept (b : Nat) (w w' : World) : Prop := Lib.OthersKept 5 (some b) w w'
theorem bldK_write (B b : Nat) (l : Bs) (s : ByteArray) (w : World) (h : BldF B b l w) (hlen : l.length + s.size ≤ 140737488355328) (hBw : B ≤ w.heap.size) :
    Calls Tryz.prog 49 #[.pointer (some ⟨b, 0, none⟩), .string s] w fun e w' => e = .returned (.tuple #[.int .i64 s.size, .nilIface]) ∧ BldF B b (l ++ s.data.toList) w' ∧ Below B w w' ∧ Kept b w w' :=
  (Any.Builder_WriteString_k (ρ := bldRen) bldLays166 bldExtra B b _ s w h (by rw [Lib.byteCells_length]; exact hlen) hBw).mono fun _ _ ⟨h1, h2, h3, h4⟩ => ⟨h1, by unfold BldF; rw [Lib.byteCells, List.map_append]; exact .inr h2, h3, h4⟩
theorem bldK_byte (B b : Nat) (l : Bs) (c : UInt8) (w : World) (h : BldF B b l w) (hlen : l.length + 1 ≤ 140737488355328) (hBw : B ≤ w.heap.size) :
    Calls Tryz.prog 51 #[.pointer (some ⟨b, 0, none⟩), .int .u8 (c.toNat : Int)] w fun e w' => e = .returned .nilIface ∧ BldF B b (l ++ [c]) w' ∧ Below B w w' ∧ Kept b w w' :=
  (Any.Builder_WriteByte_k (ρ := bldRen) bldLays167 bldExtra B b _ (c.toNat : Int) w h (by rw [Lib.byteCells_length]; exact hlen) hBw).mono fun _ _ ⟨h1, h2, h3, h4⟩ => ⟨h1, by unfold BldF; rw [Lib.byteCells, List.map_append]; exact .inr h2, h3, h4⟩
theorem bldF_string (B b : Nat) (l : Bs) (w : World) (h : BldF B b l w) (hBw : B ≤ w.heap.size) :
    Calls Tryz.prog 29 #[.pointer (some ⟨b, 0, none⟩)] w fun e w' => e = .returned (.string ⟨l.toArray⟩) ∧ Below B w w' :=
  (Tryz.Builder_String_any_f B b l w h hBw).mono fun _ _ ⟨h1, _, h3⟩ => ⟨h1, h3⟩
theorem BldF.fresh (w : World) : BldF w.heap.size w.heap.size [] (w.alloc (.cells #[.pointer none, .slice none 0 0] 52)) := Lib.IsBuilderF.of (Lib.fresh_isBuilder _ _ _)
theorem ownsF_later {B n sz : Nat} {e : TypeId} {v : Value} {xs : List Value} {w w' : World} (h : w.ownsRowF B e sz v n xs) (hb : Below w.heap.size w w') : w'.ownsRowF B e sz v n xs := by
  refine ⟨h.1, ?_⟩
  rcases h.2 with h1 | h1
  · exact .inl h1
  · refine .inr ?_
    obtain ⟨g, cap, cur, r⟩ := h1
    have hlt : g < w.heap.size := by
      obtain ⟨_, _, r⟩ := r
      first
        | (obtain ⟨z, hh, _⟩ := r; exact (Array.getElem?_eq_some_iff.1 hh).1)
        | (obtain ⟨hh, _⟩ := r; exact (Array.getElem?_eq_some_iff.1 hh).1)
    refine ⟨g, cap, cur, ?_⟩
    rw [hb.block g hlt]
    exact r
theorem BldF.later {B b : Nat} {l : Bs} {w w' : World} (h : BldF B b l w) (hb : Below w.heap.size w w') : BldF B b l w' := by
  have st : ∀ p, Lib.BuilderAtF 52 5 B b p (Lib.byteCells l) w → Lib.BuilderAtF 52 5 B b p (Lib.byteCells l) w' := fun p h => by
    obtain ⟨h1, v, h2, h3, h4⟩ := h
    exact ⟨h1, v, (hb.block b (Array.getElem?_eq_some_iff.1 h2).1).trans h2, ownsF_later h3 hb, h4⟩
  rcases h with h | h
  · exact .inl (st _ h)
  · exact .inr (st _ h)
theorem BldF.lt {B b : Nat} {l : Bs} {w : World} (h : BldF B b l w) : B ≤ b ∧ b < w.heap.size := by
  rcases h with ⟨h1, v, h2, _⟩ | ⟨h1, v, h2, _⟩ <;> exact ⟨h1, (Array.getElem?_eq_some_iff.1 h2).1⟩
theorem Kept.holds {b g : Nat} {t : TypeId} {cs : Array Value} {w w' : World} (h : Kept b w w') (hh : Holds w g t cs) (hg : g ≠ b) (ht : t ≠ 5) : Holds w' g t cs :=
  h g _ hh (fun e => hg (by injection e)) (fun c fz e => by injection e with _ e2 _; exact ht e2)
theorem Kept.later {b : Nat} {w w' w'' : World} (h : Kept b w w') (hb : Below w'.heap.size w' w'') : Kept b w w'' := fun k o h1 h2 h3 => by
  have h4 := h k o h1 h2 h3
  exact (hb.block k (Array.getElem?_eq_some_iff.1 h4).1).trans h4
theorem Kept.refl (b : Nat) (w : World) : Kept b w w := Lib.OthersKept.refl _ _ _
end Go.Proofs.YtgiiglcgfbnaoaaGreatDoor
namespace Go.Proofs.YtgiiglcgfbnaoaaGreatDoor
open Go.RowKit Go.Bd
/-- what Text answers -/
def textV (a b c : Bs) : Value := if parseB (textL a b c) = some (a, b, c) then .tuple #[strV (textL a b c), .int .i64 0] else .tuple #[strV [], .int .i64 1]
theorem sz59 : (⟨#[59]⟩ : ByteArray).size = 1 := rfl
theorem sz62 : (⟨#[62]⟩ : ByteArray).size = 1 := rfl
theorem emptyB (b : ByteArray) : (b.toList = [] ∧ b.toList.isEmpty = true) ∨ (¬ b.toList = [] ∧ b.toList.isEmpty = false) := by
  by_cases h : b.toList = []
  · exact .inl ⟨h, by rw [h]; rfl⟩
  · exact .inr ⟨h, by simpa using h⟩
theorem textV_yes {la lb lc tl x y z : Bs} (htl : textL la lb lc = tl) (hp : parseB tl = some (x, y, z)) (hx : x = la) (hy : y = lb) (hz : z = lc) : textV la lb lc = .tuple #[strV tl, .int .i64 0] := by
  subst hx hy hz; rw [textV, htl, if_pos hp]
theorem textV_no {la lb lc tl x y z : Bs} (htl : textL la lb lc = tl) (hp : parseB tl = some (x, y, z)) (h : ¬ (x = la ∧ y = lb ∧ z = lc)) : textV la lb lc = .tuple #[strV [], .int .i64 1] := by
  rw [textV, htl, hp, if_neg]; intro e; exact h (by simpa using e)
set_option maxHeartbeats 1000000 in
theorem Text_any (a b c : ByteArray) (w : World) (m : Int) (hm : w.cell? ⟨0, 0, none⟩ = some (.int .i64 m)) (ha : a.size ≤ 140737488355328) (hb : b.size ≤ 140737488355328) (hc : c.size ≤ 140737488355328) :
    Calls Tryz.prog 52 #[.string a, .string b, .string c] w fun e w' => e = .returned (textV a.data.toList b.data.toList c.data.toList) ∧ Below w.heap.size w w' := by
  rcases emptyB b with ⟨h1, h1'⟩ | ⟨h1, h1'⟩ <;> rcases emptyB c with ⟨h2, h2'⟩ | ⟨h2, h2'⟩
  · have ht : (a : ByteArray).data.toList = textL a.data.toList b.data.toList c.data.toList := by
      rw [ByteArray.toList_eq] at h1 h2
      simp [textL, h1, h2]
    have hz : a.size ≤ 9223372036854775807 := by omega
    have cp := parse_any a m w hz hm
    rw [ht] at cp
    generalize htl : textL a.data.toList b.data.toList c.data.toList = tl at cp ht
    go_enter Tryz.func52, Tryz.ntmps52
    go_wp2_with fail
    have HT := Lib.hid ht
    clear ht hz
    cases hp : parseB tl with
    | none =>
      have HV : Hid (textV a.data.toList b.data.toList c.data.toList = .tuple #[strV [], .int .i64 1]) := by
        unfold Hid; rw [textV, htl, hp]; exact if_neg (by simp)
      rw [parseP_none hp] at cp
      clear hp htl
      refine cp.mono ?_
      rintro e w1 ⟨rfl, hb1⟩
      rw [strV]
      go_wp2
      go_ret2
      exact ⟨congrArg Ending.returned HV.out.symm, hb1.alloc hb1.size _⟩
    | some p =>
      obtain ⟨x, y, z⟩ := p
      rw [parseP_some hp] at cp
      have HP := Lib.hid hp
      have HTL := Lib.hid htl
      clear hp htl
      refine cp.mono ?_
      rintro e w1 ⟨rfl, hb1⟩
      rw [strV, strV, strV]
      go_wp2
      all_goals
        go_ret2
        refine ⟨congrArg Ending.returned ?_, hb1.alloc hb1.size _⟩
        go_light
        simp only [ByteArray.toList_eq] at *
        first
          | (rw [textV_no HTL.out HP.out (by simp_all)]; rfl)
          | (rw [textV_yes HTL.out HP.out (by simp_all) (by simp_all) (by simp_all), strV, ← mk_of HT.out]; rfl)
  · have ht : ((a ++ (⟨#[62]⟩ ++ c)) : ByteArray).data.toList = textL a.data.toList b.data.toList c.data.toList := by
      rw [ByteArray.toList_eq] at h1 h2
      simp [textL, h1, h2]
    have hz : ((a ++ (⟨#[62]⟩ ++ c)) : ByteArray).size ≤ 9223372036854775807 := by simp only [ByteArray.size_append, sz62]; omega
    have cp := parse_any (a ++ (⟨#[62]⟩ ++ c)) m w hz hm
    rw [ht] at cp
    generalize htl : textL a.data.toList b.data.toList c.data.toList = tl at cp ht
    go_enter Tryz.func52, Tryz.ntmps52
    go_wp2_with fail
    generalize (a ++ (⟨#[62]⟩ ++ c)) = t at cp ht ⊢
    have HT := Lib.hid ht
    clear ht hz
    cases hp : parseB tl with
    | none =>
      have HV : Hid (textV a.data.toList b.data.toList c.data.toList = .tuple #[strV [], .int .i64 1]) := by
        unfold Hid; rw [textV, htl, hp]; exact if_neg (by simp)
      rw [parseP_none hp] at cp
      clear hp htl
      refine cp.mono ?_
      rintro e w1 ⟨rfl, hb1⟩
      rw [strV]
      go_wp2
      go_ret2
      exact ⟨congrArg Ending.returned HV.out.symm, hb1.alloc hb1.size _⟩
    | some p =>
      obtain ⟨x, y, z⟩ := p
      rw [parseP_some hp] at cp
      have HP := Lib.hid hp
      have HTL := Lib.hid htl
      clear hp htl
      refine cp.mono ?_
      rintro e w1 ⟨rfl, hb1⟩
      rw [strV, strV, strV]
      go_wp2
      all_goals
        go_ret2
        refine ⟨congrArg Ending.returned ?_, hb1.alloc hb1.size _⟩
        go_light
        simp only [ByteArray.toList_eq] at *
        first
          | (rw [textV_no HTL.out HP.out (by simp_all)]; rfl)
          | (rw [textV_yes HTL.out HP.out (by simp_all) (by simp_all) (by simp_all), strV, ← mk_of HT.out]; rfl)
  · have ht : ((a ++ (⟨#[59]⟩ ++ b)) : ByteArray).data.toList = textL a.data.toList b.data.toList c.data.toList := by
      rw [ByteArray.toList_eq] at h1 h2
      simp [textL, h1, h2]
    have hz : ((a ++ (⟨#[59]⟩ ++ b)) : ByteArray).size ≤ 9223372036854775807 := by simp only [ByteArray.size_append, sz59]; omega
    have cp := parse_any (a ++ (⟨#[59]⟩ ++ b)) m w hz hm
    rw [ht] at cp
    generalize htl : textL a.data.toList b.data.toList c.data.toList = tl at cp ht
    go_enter Tryz.func52, Tryz.ntmps52
    go_wp2_with fail
    generalize (a ++ (⟨#[59]⟩ ++ b)) = t at cp ht ⊢
    have HT := Lib.hid ht
    clear ht hz
    cases hp : parseB tl with
    | none =>
      have HV : Hid (textV a.data.toList b.data.toList c.data.toList = .tuple #[strV [], .int .i64 1]) := by
        unfold Hid; rw [textV, htl, hp]; exact if_neg (by simp)
      rw [parseP_none hp] at cp
      clear hp htl
      refine cp.mono ?_
      rintro e w1 ⟨rfl, hb1⟩
      rw [strV]
      go_wp2
      go_ret2
      exact ⟨congrArg Ending.returned HV.out.symm, hb1.alloc hb1.size _⟩
    | some p =>
      obtain ⟨x, y, z⟩ := p
      rw [parseP_some hp] at cp
      have HP := Lib.hid hp
      have HTL := Lib.hid htl
      clear hp htl
      refine cp.mono ?_
      rintro e w1 ⟨rfl, hb1⟩
      rw [strV, strV, strV]
      go_wp2
      all_goals
        go_ret2
        refine ⟨congrArg Ending.returned ?_, hb1.alloc hb1.size _⟩
        go_light
        simp only [ByteArray.toList_eq] at *
        first
          | (rw [textV_no HTL.out HP.out (by simp_all)]; rfl)
          | (rw [textV_yes HTL.out HP.out (by simp_all) (by simp_all) (by simp_all), strV, ← mk_of HT.out]; rfl)
  · have ht : (((a ++ (⟨#[59]⟩ ++ b)) ++ (⟨#[62]⟩ ++ c)) : ByteArray).data.toList = textL a.data.toList b.data.toList c.data.toList := by
      rw [ByteArray.toList_eq] at h1 h2
      simp [textL, h1, h2]
    have hz : (((a ++ (⟨#[59]⟩ ++ b)) ++ (⟨#[62]⟩ ++ c)) : ByteArray).size ≤ 9223372036854775807 := by simp only [ByteArray.size_append, sz59, sz62]; omega
    have cp := parse_any ((a ++ (⟨#[59]⟩ ++ b)) ++ (⟨#[62]⟩ ++ c)) m w hz hm
    rw [ht] at cp
    generalize htl : textL a.data.toList b.data.toList c.data.toList = tl at cp ht
    go_enter Tryz.func52, Tryz.ntmps52
    go_wp2_with fail
    generalize ((a ++ (⟨#[59]⟩ ++ b)) ++ (⟨#[62]⟩ ++ c)) = t at cp ht ⊢
    have HT := Lib.hid ht
    clear ht hz
    cases hp : parseB tl with
    | none =>
      have HV : Hid (textV a.data.toList b.data.toList c.data.toList = .tuple #[strV [], .int .i64 1]) := by
        unfold Hid; rw [textV, htl, hp]; exact if_neg (by simp)
      rw [parseP_none hp] at cp
      clear hp htl
      refine cp.mono ?_
      rintro e w1 ⟨rfl, hb1⟩
      rw [strV]
      go_wp2
      go_ret2
      exact ⟨congrArg Ending.returned HV.out.symm, hb1.alloc hb1.size _⟩
    | some p =>
      obtain ⟨x, y, z⟩ := p
      rw [parseP_some hp] at cp
      have HP := Lib.hid hp
      have HTL := Lib.hid htl
      clear hp htl
      refine cp.mono ?_
      rintro e w1 ⟨rfl, hb1⟩
      rw [strV, strV, strV]
      go_wp2
      all_goals
        go_ret2
        refine ⟨congrArg Ending.returned ?_, hb1.alloc hb1.size _⟩
        go_light
        simp only [ByteArray.toList_eq] at *
        first
          | (rw [textV_no HTL.out HP.out (by simp_all)]; rfl)
          | (rw [textV_yes HTL.out HP.out (by simp_all) (by simp_all) (by simp_all), strV, ← mk_of HT.out]; rfl)
end Go.Proofs.YtgiiglcgfbnaoaaGreatDoor
namespace Go.Proofs.YtgiiglcgfbnaoaaGreatDoor
open Go.RowKit Go.Bd
theorem catList (a t b : Bs) : ((⟨a.toArray⟩ : ByteArray) ++ ⟨t.toArray⟩ ++ ⟨b.toArray⟩).data.toList = a ++ t ++ b := by
  simp only [ByteArray.data_append, Array.toList_append]
theorem catSize (a t b : Bs) : ((⟨a.toArray⟩ : ByteArray) ++ ⟨t.toArray⟩ ++ ⟨b.toArray⟩).size = a.length + t.length + b.length := by
  rw [ByteArray.size_append, ByteArray.size_append]; rfl
theorem bldK_three (B b : Nat) (pre a t z : Bs) (w : World) (h : BldF B b pre w) (hlen : pre.length + (a.length + t.length + z.length) ≤ 2000000000000) (hBw : B ≤ w.heap.size) :
    Calls Tryz.prog 49 #[.pointer (some ⟨b, 0, none⟩), .string ((⟨a.toArray⟩ : ByteArray) ++ ⟨t.toArray⟩ ++ ⟨z.toArray⟩)] w fun e w' => (∃ v, e = .returned v) ∧ BldF B b (pre ++ (a ++ t ++ z)) w' ∧ Below B w w' ∧ Kept b w w' := by
  refine (bldK_write B b pre _ w h (by rw [catSize]; omega) hBw).mono ?_
  rintro e w' ⟨he, h1, h2, h3⟩
  rw [catList] at h1
  exact ⟨⟨_, he⟩, h1, h2, h3⟩
/-- what is known of spans that are put, so many at most -/
def PutOk (N : Nat) : Prop := ∀ (l : List Sp), manyL l ≤ N → manyL l ≤ 1000000000 → wlL l ≤ 1000000000 → ∀ (v : Value) (w : World) (B b : Nat) (acc : Bs) (m : Int), Forest w (· < B) v l → BldF B b acc w → acc.length + wlL l ≤ 1000000000000 → w.cell? ⟨0, 0, none⟩ = some (.int .i64 m) → 0 < B →
    Calls Tryz.prog 28 #[.pointer (some ⟨b, 0, none⟩), v] w fun e w' => e = .returned (.bool (putF l).2) ∧ BldF B b (acc ++ (putF l).1) w' ∧ Below B w w' ∧ Kept b w w'
set_option maxRecDepth 100000 in
set_option maxHeartbeats 2000000 in
theorem within_any {N : Nat} (ih : PutOk N) (l : List Sp) (hN : manyL l ≤ N) (hm : manyL l ≤ 1000000000) (hw : wlL l ≤ 1000000000) (first last : ByteArray) (h1 : first.size ≤ 2) (h2 : last.size ≤ 2) (v : Value) (w : World) (B b bx : Nat) (acc : Bs) (m : Int) (hF : Forest w (· < B) v l) (hI : BldF B b acc w)
    (hL : acc.length + wlL l ≤ 999999999994) (hc : w.cell? ⟨0, 0, none⟩ = some (.int .i64 m)) (hB : 0 < B) (hX : Holds w bx 50 #[.pointer (some ⟨b, 0, none⟩)]) (hbx : bx ≠ b) :
    Calls Tryz.prog 48 #[.string first, .string last, v, .pointer (some ⟨bx, 0, none⟩)] w fun e w' => e = .returned (.bool (putF l).2) ∧ BldF B b (acc ++ (first.data.toList ++ ((putF l).1 ++ last.data.toList))) w' ∧ Below B w w' ∧ Kept b w w' := by
  have hlb := hI.lt
  have l1 : first.data.toList.length = first.size := by simp
  have l2 : last.data.toList.length = last.size := by simp
  have hpl := putF_len l
  obtain ⟨A, c, rfl, hcc⟩ := hF.len
  have HF := Lib.hid hF
  have HI := Lib.hid hI
  have HC := Lib.hid hc
  have HX := Lib.hid hX
  have c0 := hX.cell 0
  have HL1 := Lib.hid l1
  have HL2 := Lib.hid l2
  have HPO : Hid (PutOk N) := ih
  obtain ⟨ok, hok⟩ : ∃ ok, (putF l).2 = ok := ⟨_, rfl⟩
  obtain ⟨out, hout⟩ : ∃ out, (putF l).1 = out := ⟨_, rfl⟩
  rw [hok, hout]
  rw [hout] at hpl
  have HOK := Lib.hid hok
  have HOUT := Lib.hid hout
  clear hF hI hc hX ih l1 l2 hok hout
  go_enter Tryz.func48, Tryz.ntmps48
  go_wp2_with fail
  refine (bldK_write B b acc first w HI.out (by omega) (by omega)).mono ?_
  rintro e w1 ⟨rfl, hI1, hb1, hk1⟩
  have hX1 := hk1.holds HX.out hbx (by decide)
  have d0 := hX1.cell 0
  have HX1 := Lib.hid hX1
  have hs1 := hb1.size
  have cp := HPO.out l hN hm hw _ w1 B b _ m (HF.out.under hb1 (fun _ h => h)) hI1 (by rw [List.length_append, HL1.out]; omega) ((hb1.cell (p := ⟨0, 0, none⟩) hB).trans HC.out) hB
  have HB1 := Lib.hid hb1
  have HK1 := Lib.hid hk1
  clear hI1 hb1 hk1 hX1
  rw [HOK.out, HOUT.out] at cp
  go_wp2_with fail
  refine cp.mono ?_
  clear cp
  rintro e w2 ⟨rfl, hI2, hb2, hk2⟩
  have hX2 := hk2.holds HX1.out hbx (by decide)
  have e0 := hX2.cell 0
  have hs2 := hb2.size
  have cw := bldK_write B b _ last w2 hI2 (by rw [List.length_append, List.length_append, HL1.out]; omega) (by omega)
  have HB2 := Lib.hid (HB1.out.trans hb2)
  have HK2 := Lib.hid (HK1.out.trans hk2)
  clear hI2 hb2 hk2 hX2
  go_wp2_with fail
  refine cw.mono ?_
  clear cw
  rintro e w3 ⟨rfl, hI3, hb3, hk3⟩
  have HI3 := Lib.hid hI3
  have HB3 := Lib.hid (HB2.out.trans hb3)
  have HK3 := Lib.hid (HK2.out.trans hk3)
  clear hI3 hb3 hk3
  go_wp2
  go_ret
  refine ⟨rfl, ?_, HB3.out, HK3.out⟩
  have h := HI3.out
  simp only [List.append_assoc] at h
  exact h
theorem putText_any (x : Sp) (w : World) (m : Int) (hm : w.cell? ⟨0, 0, none⟩ = some (.int .i64 m)) (hw : wl1 x ≤ 1000000000) :
    Calls Tryz.prog 52 #[.string ⟨x.text.toArray⟩, .string ⟨x.sub.toArray⟩, .string ⟨x.see.toArray⟩] w fun e w' => ∃ (t : Bs) (er : Int) (ok : Bool), e = .returned (.tuple #[.string ⟨t.toArray⟩, .int .i64 er]) ∧ Below w.heap.size w w' ∧ (er == 0) = ok ∧ t.length ≤ wl1 x ∧
      ([40, 40] ++ (if parseB (textL x.text x.sub x.see) = some (x.text, x.sub, x.see) then textL x.text x.sub x.see else []) ++ [41, 41], decide (parseB (textL x.text x.sub x.see) = some (x.text, x.sub, x.see))) = (40 :: 40 :: (t ++ [41, 41]), ok) := by
  have hq := wl1_eq x
  have hl := textL_len x.text x.sub x.see
  refine (Text_any ⟨x.text.toArray⟩ ⟨x.sub.toArray⟩ ⟨x.see.toArray⟩ w m hm (by rw [size_mk]; omega) (by rw [size_mk]; omega) (by rw [size_mk]; omega)).mono ?_
  rintro e w' ⟨rfl, hb⟩
  unfold textV
  simp only [List.toList_toArray]
  split
  · rename_i h; exact ⟨_, 0, true, rfl, hb, rfl, by omega, by simp [h]⟩
  · rename_i h; exact ⟨[], 1, false, rfl, hb, rfl, by simp, by simp [h]⟩

theorem holdsUnder {w w' : World} {g : Nat} {t : TypeId} {cs : Array Value} (h : Holds w g t cs) (hb : Below w.heap.size w w') : Holds w' g t cs := (hb.block g h.lt).trans h
set_option maxRecDepth 100000 in
set_option maxHeartbeats 4000000 in
theorem put_step {N : Nat} (ih : ∀ M, M < N → PutOk M) : PutOk N := by
  intro l hN hm hw v w B b acc m hF hI hL hc hB
  obtain ⟨A, c, rfl, hcc⟩ := hF.len
  have hlm := many_len l
  obtain ⟨hbB, hbw⟩ := hI.lt
  obtain ⟨w0, hw0⟩ : ∃ w0, w.alloc (.cells #[.pointer (some ⟨b, 0, none⟩)] 50) = w0 := ⟨_, rfl⟩
  have hal : Below w.heap.size w w0 := by rw [← hw0]; exact (Below.refl _ _).alloc (Nat.le_refl _) _
  have hX : Holds w0 w.heap.size 50 #[.pointer (some ⟨b, 0, none⟩)] := by rw [← hw0]; exact Holds.new w _ _
  have hz0 : w0.heap.size = w.heap.size + 1 := by rw [← hw0]; simp
  have hB0 : Below B w w0 := hal.mono (by omega)
  have HF := Lib.hid (hF.under hB0 (fun _ h => h))
  have HI := Lib.hid (hI.later hal)
  have HC := Lib.hid ((hB0.cell (p := ⟨0, 0, none⟩) hB).trans hc)
  have HX := Lib.hid hX
  have HB0 := Lib.hid hB0
  have HK0 : Hid (Kept b w w0) := (Kept.refl b w).later hal
  have HIH := Lib.hid ih
  clear hF hI hc hX hal hB0 ih
  obtain ⟨n, hn⟩ : ∃ n, l.length = n := ⟨_, rfl⟩
  have HN := Lib.hid hn
  simp only [hn] at hcc hlm HF ⊢
  clear hn
  have HZ0 := Lib.hid hz0
  have HW0 := Lib.hid hw0
  have hz1 : w.heap.size < w0.heap.size := by omega
  clear hz0
  go_enter Tryz.func28, Tryz.ntmps28
  go_wp2
  clear hw0
  go_loopg [15] n (fun q i wr => ∃ k : Nat, k + q = n ∧ i = .int .i64 (k : Int) ∧ Hid ((putF (l.take k)).2 = true) ∧ Hid (BldF B b (acc ++ (putF (l.take k)).1) wr ∧ Below B w0 wr ∧ Kept b w0 wr))
  case atStart => exact ⟨0, by omega, rfl, rfl, by simpa [putF] using HI.out, Below.refl _ _, Kept.refl _ _⟩
  case round =>
    obtain ⟨k, hk, rfl, HT, HR⟩ := hrel
    by_cases hlt : k < n
    · obtain ⟨x, hx⟩ : ∃ x, l[k]? = some x := ⟨_, List.getElem?_eq_getElem (by rw [HN.out]; exact hlt)⟩
      obtain ⟨b1, off, kA, kc, rfl, hb1, hkF, p0, p1, p2, p3, p4⟩ := HF.out.at hx
      have hbl := HR.out.2.1
      have hrb := hbl.size
      replace p0 := (hbl.cell (p := ⟨b1, off + k * 5, none⟩) hb1).trans p0
      replace p1 := (hbl.cell (p := ⟨b1, off + k * 5 + 1, none⟩) hb1).trans p1
      replace p2 := (hbl.cell (p := ⟨b1, off + k * 5 + 2, none⟩) hb1).trans p2
      replace p3 := (hbl.cell (p := ⟨b1, off + k * 5 + 3, none⟩) hb1).trans p3
      replace p4 := (hbl.cell (p := ⟨b1, off + k * 5 + 4, none⟩) hb1).trans p4
      have hgt := many_get hx
      have hwg := wl_get hx
      have hw1 := wl1_eq x
      have hpl := putF_len (l.take k)
      have HTK := Lib.hid (putF_take hx HT.out)
      have HFL := Lib.hid (fun h => putF_fail hx HT.out h)
      have HKF := Lib.hid (hkF.under hbl (fun _ h => h))
      have HP1 := Lib.hid (putF1_eq x)
      have HCR := Lib.hid ((hbl.cell (p := ⟨0, 0, none⟩) hB).trans HC.out)
      clear hx hkF hbl
      have hlw : (acc ++ (putF (l.take k)).1).length ≤ 1000000000000 - wl1 x := by rw [List.length_append]; omega
      have HT2 : Hid ((putF (l.take (k + 1))).2 = (putF1 x).2) := by unfold Hid; rw [HTK.out]
      have HT3 : Hid (acc ++ (putF (l.take (k + 1))).1 = acc ++ (putF (l.take k)).1 ++ (putF1 x).1) := by unfold Hid; rw [HTK.out, List.append_assoc]
      have HF3 : Hid ((putF1 x).2 = false → (putF l).2 = false ∧ acc ++ (putF l).1 = acc ++ (putF (l.take k)).1 ++ (putF1 x).1) := fun h => by rw [HFL.out h]; exact ⟨rfl, by rw [List.append_assoc]⟩
      clear HTK HFL
      obtain ⟨pre, hpre⟩ : ∃ pre, acc ++ (putF (l.take k)).1 = pre := ⟨_, rfl⟩
      rw [hpre] at HR hlw HT3 HF3
      clear hpre
      have hwx : wl1 x ≤ 1000000000 := by omega
      obtain ⟨h8, h9, h10⟩ := HR.out
      have HI1 := Lib.hid h8
      have HB1 := Lib.hid (HB0.out.trans h9)
      have HK1 := Lib.hid (HK0.out.trans h10)
      have HXR := Lib.hid (h10.holds HX.out (by omega) (by decide))
      have HBR := Lib.hid h9
      have HKR := Lib.hid h10
      clear h8 h9 h10 HR
      rcases (show x.kind = 0 ∨ x.kind = 1 ∨ x.kind = 2 ∨ x.kind = 3 ∨ x.kind = 4 ∨ x.kind = 5 ∨ x.kind = 6 ∨ (x.kind ≠ 0 ∧ x.kind ≠ 1 ∧ x.kind ≠ 2 ∧ x.kind ≠ 3 ∧ x.kind ≠ 4 ∧ x.kind ≠ 5 ∧ x.kind ≠ 6) by omega) with h0 | h0 | h0 | h0 | h0 | h0 | h0 | h0
      · replace p0 : wr.cell? ⟨b1, off + k * 5, none⟩ = some (.int .u8 0) := by rw [p0, h0]; rfl
        have e1 : putF1 x = (esc x.text, true) := by rw [HP1.out, h0]; rfl
        have E1 := Lib.hid e1
        clear e1 h0 HP1
        have hsb := (Below.refl wr.heap.size wr).alloc (Nat.le_refl _) (.cells #[.int .u8 0, .string ⟨x.text.toArray⟩, .string ⟨x.sub.toArray⟩, .string ⟨x.see.toArray⟩, .slice kA x.kids.length kc] 33)
        have hX1 := holdsUnder HXR.out hsb
        have x0 := hX1.cell 0
        have HX1 := Lib.hid hX1
        have hI1 := HI1.out.later hsb
        have HSB := Lib.hid hsb
        clear hX1 hsb
        obtain ⟨T, hT⟩ : ∃ T : ByteArray, T = ⟨x.text.toArray⟩ := ⟨_, rfl⟩
        rw [← hT] at p1
        have hTl : T.data.toList = x.text := by rw [hT]
        have hTz : T.size = x.text.length := by rw [hT]; rfl
        have HSB2 := HSB.out
        rw [← hT] at HSB2
        have HS1 : Hid (Holds (wr.alloc (.cells #[.int .u8 0, .string T, .string ⟨x.sub.toArray⟩, .string ⟨x.see.toArray⟩, .slice kA x.kids.length kc] 33)) wr.heap.size 33 #[.int .u8 0, .string T, .string ⟨x.sub.toArray⟩, .string ⟨x.see.toArray⟩, .slice kA x.kids.length kc]) := Holds.new wr _ _
        rw [← hT] at hI1 x0 HX1
        have HIS := Lib.hid hI1
        have HTL := Lib.hid hTl
        have HTZ := Lib.hid hTz
        have hTb : T.size ≤ 1000000000 := by omega
        have hlw2 : pre.length + 2 * T.size ≤ 1000000000000 := by omega
        have HSBT := Lib.hid HSB2
        clear hT hTl hTz HSB HSB2 hI1
        obtain ⟨gO, hgO⟩ : ∃ g, g = gk := ⟨_, rfl⟩
        subst hgO
        obtain ⟨wr0, hwO⟩ : ∃ x, x = wr := ⟨_, rfl⟩
        subst hwO
        go_wp2
        go_loopg [26] T.size (fun q i wz => ∃ j : Nat, j + q = T.size ∧ i = .int .i64 (j : Int) ∧ Hid (BldF B b (pre ++ esc (x.text.take j)) wz ∧ Below B (wr0.alloc (.cells #[.int .u8 0, .string T, .string ⟨x.sub.toArray⟩, .string ⟨x.see.toArray⟩, .slice kA x.kids.length kc] 33)) wz ∧ Kept b (wr0.alloc (.cells #[.int .u8 0, .string T, .string ⟨x.sub.toArray⟩, .string ⟨x.see.toArray⟩, .slice kA x.kids.length kc] 33)) wz))
        case atStart => exact ⟨0, by omega, rfl, by simpa [esc] using HIS.out, Below.refl _ _, Kept.refl _ _⟩
        case round =>
          obtain ⟨j, hj, rfl, HR2⟩ := hrel
          have hzs := HR2.out.2.1.size
          simp only [World.size_alloc] at hzs
          by_cases hjt : j < T.size
          · have hX2 := HR2.out.2.2.holds HX1.out (by omega) (by decide)
            have hS2 := HR2.out.2.2.holds HS1.out (by omega) (by decide)
            have y0 := hX2.cell 0
            have y1 := hS2.cell 1
            have HX2 := Lib.hid hX2
            have HS2 := Lib.hid hS2
            have hel := esc_len (x.text.take j)
            have htl : (x.text.take j).length ≤ j := List.length_take_le _ _
            have HEJ0 : Hid (x.text.take (j + 1) = x.text.take j ++ [T[j]]) := by
              unfold Hid
              rw [← HTL.out, List.take_add_one, List.getElem?_eq_getElem (by simpa using hjt)]; rfl
            have ce : ∀ w, Calls Tryz.prog 50 #[.int .u8 (T[j].toNat : Int)] w fun e w' => e = .returned (.bool (escB T[j])) ∧ w = w' := fun w => escaped_any T[j] w
            clear hX2 hS2
            cases he : escB T[j] with
            | true =>
              rw [he] at ce
              have HEJ : Hid (esc (x.text.take (j + 1)) = esc (x.text.take j) ++ ([92] ++ [T[j]])) := by
                unfold Hid
                rw [HEJ0.out, esc_snoc, if_pos he]; rfl
              clear he
              go_wp2_with (go_at_call 50; refine (ce _).mono ?_; rintro e w' ⟨rfl, rfl⟩)
              refine (bldK_byte B b _ 92 wr HR2.out.1 (by rw [List.length_append]; omega) (by omega)).mono ?_
              rintro e w3 ⟨rfl, hI3, hb3, hk3⟩
              have hX3 := hk3.holds HX2.out (by omega) (by decide)
              have hS3 := hk3.holds HS2.out (by omega) (by decide)
              have q0 := hX3.cell 0
              have q1 := hS3.cell 1
              have HX3 := Lib.hid hX3
              have HS3 := Lib.hid hS3
              have HI3 := Lib.hid hI3
              have HI3D : Hid (∀ k, BldF B b (pre ++ esc (x.text.take j) ++ [92]) (w3.drewN k)) := fun k => hI3
              have hb3s := hb3.size
              have HB3 := Lib.hid (HR2.out.2.1.trans hb3)
              have HK3 := Lib.hid (HR2.out.2.2.trans hk3)
              clear hI3 hb3 hk3 hX3 hS3 y0 y1 ce
              go_wp2_with fail
              refine wp_region_held_drew (S := (fun w' => w'.cell? ⟨w.heap.size, 0, none⟩ = some (.pointer (some ⟨b, 0, none⟩)) ∧ w'.cell? ⟨wr0.heap.size, 1, none⟩ = some (.string T))) (by kernel_rfl) ?_ (fun hHeld0 => ?_)
              · (try dsimp only)
                first | exact ⟨q0, q1⟩ | exact ⟨z0, z1⟩
              refine wpAnyH_take (i := 0) (v := ?_) rfl (by kernel_rfl) (by kernel_rfl) (by kernel_rfl) (fun _ _ _ h => h) (Or.inl ⟨by kernel_rfl, ?_⟩) (by assumption) ?_
              rotate_left
              · (intro w hSw; (try dsimp only at hSw); go_simp; (first | done | with_reducible rfl))
              (try simp only [Act.put, List.setIfInBounds_toArray, List.set_cons_zero, List.set_cons_succ])
              refine wpAnyH_take (i := 1) (v := ?_) rfl (by kernel_rfl) (by kernel_rfl) (by kernel_rfl) (fun _ _ _ h => h) (Or.inl ⟨by kernel_rfl, ?_⟩) (by assumption) ?_
              rotate_left
              · (intro w hSw; (try dsimp only at hSw); go_simp; (first | done | with_reducible rfl))
              (try simp only [Act.put, List.setIfInBounds_toArray, List.set_cons_zero, List.set_cons_succ])
              refine wpAnyH_take (i := 2) (v := ?_) rfl (by kernel_rfl) (by kernel_rfl) (by kernel_rfl) (fun _ _ _ h => h) (Or.inl ⟨by kernel_rfl, ?_⟩) (by assumption) ?_
              rotate_left
              · (intro w hSw; (try dsimp only at hSw); go_simp; (first | done | with_reducible rfl))
              (try simp only [Act.put, List.setIfInBounds_toArray, List.set_cons_zero, List.set_cons_succ])
              refine wpAnyH_take (i := 3) (v := ?_) rfl (by kernel_rfl) (by kernel_rfl) (by kernel_rfl) (fun _ _ _ h => h) (Or.inl ⟨by kernel_rfl, ?_⟩) (by assumption) ?_
              rotate_left
              · (intro w hSw; (try dsimp only at hSw); go_simp; (first | done | with_reducible rfl))
              (try simp only [Act.put, List.setIfInBounds_toArray, List.set_cons_zero, List.set_cons_succ])
              refine wpAnyH_take (i := 4) (v := ?_) rfl (by kernel_rfl) (by kernel_rfl) (by kernel_rfl) (fun _ _ _ h => h) (Or.inl ⟨by kernel_rfl, ?_⟩) (by assumption) ?_
              rotate_left
              · (intro w hSw; (try dsimp only at hSw); go_simp; (first | done | with_reducible rfl))
              (try simp only [Act.put, List.setIfInBounds_toArray, List.set_cons_zero, List.set_cons_succ])
              refine wpAnyH_ready (rs := [5]) (by kernel_rfl) (by simp) ?_
              refine AllReadyH.cons rfl (fun K hK => ?_) AllReadyH.nil
              go_simp
              refine (bldK_byte B b _ T[j] _ (HI3D.out _) (by rw [List.length_append]; (try simp only [List.length_append, List.length_cons, List.length_nil]); omega) (by first | omega | (simp; omega))).mono ?_
              rintro e w4 ⟨rfl, hI4, hb4, hk4⟩
              have z0 := (hk4.holds HX3.out (by omega) (by decide)).cell 0
              have z1 := (hk4.holds HS3.out (by omega) (by decide)).cell 1
              have HI4 := Lib.hid hI4
              have HB4 := Lib.hid (HB3.out.drew.trans hb4)
              have HK4 := Lib.hid (Lib.OthersKept.trans (Lib.OthersKept.drew HK3.out) hk4)
              clear hI4 hb4 hk4
              go_wp2_with fail
              refine hK.out _ _ ?_ (fun hHeld1 => ?_)
              · (try dsimp only)
                first | exact ⟨q0, q1⟩ | exact ⟨z0, z1⟩
              clear hK K hHeld0
              (try simp only [Act.put, List.setIfInBounds_toArray, List.set_cons_zero, List.set_cons_succ])
              refine wpAnyH_done (by kernel_rfl) ?_ _
              go_wp2
              go_roundg (gk - 1)
              case measure => omega
              case rel => exact ⟨j + 1, by omega, by go_num, by rw [HEJ.out]; have h := HI4.out; simp only [List.append_assoc] at h ⊢; exact h, HB4.out, HK4.out⟩
            | false =>
              rw [he] at ce
              have HEJ : Hid (esc (x.text.take (j + 1)) = esc (x.text.take j) ++ [T[j]]) := by
                unfold Hid
                rw [HEJ0.out, esc_snoc, if_neg (by rw [he]; decide)]
              have HX3 := HX2
              have HS3 := HS2
              have HI3 := Lib.hid HR2.out.1
              have HI3D : Hid (∀ k, BldF B b (pre ++ esc (x.text.take j)) (wr.drewN k)) := fun k => HR2.out.1
              have HB3 := Lib.hid HR2.out.2.1
              have HK3 := Lib.hid HR2.out.2.2
              clear he
              go_wp2_with (go_at_call 50; refine (ce _).mono ?_; rintro e w' ⟨rfl, rfl⟩)
              refine wp_region_held_drew (S := (fun w' => w'.cell? ⟨w.heap.size, 0, none⟩ = some (.pointer (some ⟨b, 0, none⟩)) ∧ w'.cell? ⟨wr0.heap.size, 1, none⟩ = some (.string T))) (by kernel_rfl) ?_ (fun hHeld0 => ?_)
              · (try dsimp only)
                first | exact ⟨y0, y1⟩ | exact ⟨z0, z1⟩
              refine wpAnyH_take (i := 0) (v := ?_) rfl (by kernel_rfl) (by kernel_rfl) (by kernel_rfl) (fun _ _ _ h => h) (Or.inl ⟨by kernel_rfl, ?_⟩) (by assumption) ?_
              rotate_left
              · (intro w hSw; (try dsimp only at hSw); go_simp; (first | done | with_reducible rfl))
              (try simp only [Act.put, List.setIfInBounds_toArray, List.set_cons_zero, List.set_cons_succ])
              refine wpAnyH_take (i := 1) (v := ?_) rfl (by kernel_rfl) (by kernel_rfl) (by kernel_rfl) (fun _ _ _ h => h) (Or.inl ⟨by kernel_rfl, ?_⟩) (by assumption) ?_
              rotate_left
              · (intro w hSw; (try dsimp only at hSw); go_simp; (first | done | with_reducible rfl))
              (try simp only [Act.put, List.setIfInBounds_toArray, List.set_cons_zero, List.set_cons_succ])
              refine wpAnyH_take (i := 2) (v := ?_) rfl (by kernel_rfl) (by kernel_rfl) (by kernel_rfl) (fun _ _ _ h => h) (Or.inl ⟨by kernel_rfl, ?_⟩) (by assumption) ?_
              rotate_left
              · (intro w hSw; (try dsimp only at hSw); go_simp; (first | done | with_reducible rfl))
              (try simp only [Act.put, List.setIfInBounds_toArray, List.set_cons_zero, List.set_cons_succ])
              refine wpAnyH_take (i := 3) (v := ?_) rfl (by kernel_rfl) (by kernel_rfl) (by kernel_rfl) (fun _ _ _ h => h) (Or.inl ⟨by kernel_rfl, ?_⟩) (by assumption) ?_
              rotate_left
              · (intro w hSw; (try dsimp only at hSw); go_simp; (first | done | with_reducible rfl))
              (try simp only [Act.put, List.setIfInBounds_toArray, List.set_cons_zero, List.set_cons_succ])
              refine wpAnyH_take (i := 4) (v := ?_) rfl (by kernel_rfl) (by kernel_rfl) (by kernel_rfl) (fun _ _ _ h => h) (Or.inl ⟨by kernel_rfl, ?_⟩) (by assumption) ?_
              rotate_left
              · (intro w hSw; (try dsimp only at hSw); go_simp; (first | done | with_reducible rfl))
              (try simp only [Act.put, List.setIfInBounds_toArray, List.set_cons_zero, List.set_cons_succ])
              refine wpAnyH_ready (rs := [5]) (by kernel_rfl) (by simp) ?_
              refine AllReadyH.cons rfl (fun K hK => ?_) AllReadyH.nil
              go_simp
              refine (bldK_byte B b _ T[j] _ (HI3D.out _) (by rw [List.length_append]; (try simp only [List.length_append, List.length_cons, List.length_nil]); omega) (by first | omega | (simp; omega))).mono ?_
              rintro e w4 ⟨rfl, hI4, hb4, hk4⟩
              have z0 := (hk4.holds HX3.out (by omega) (by decide)).cell 0
              have z1 := (hk4.holds HS3.out (by omega) (by decide)).cell 1
              have HI4 := Lib.hid hI4
              have HB4 := Lib.hid (HB3.out.drew.trans hb4)
              have HK4 := Lib.hid (Lib.OthersKept.trans (Lib.OthersKept.drew HK3.out) hk4)
              clear hI4 hb4 hk4
              go_wp2_with fail
              refine hK.out _ _ ?_ (fun hHeld1 => ?_)
              · (try dsimp only)
                first | exact ⟨y0, y1⟩ | exact ⟨z0, z1⟩
              clear hK K hHeld0
              (try simp only [Act.put, List.setIfInBounds_toArray, List.set_cons_zero, List.set_cons_succ])
              refine wpAnyH_done (by kernel_rfl) ?_ _
              go_wp2
              go_roundg (gk - 1)
              case measure => omega
              case rel => exact ⟨j + 1, by omega, by go_num, by rw [HEJ.out]; have h := HI4.out; simp only [List.append_assoc] at h ⊢; exact h, HB4.out, HK4.out⟩
          · obtain rfl : j = T.size := by omega
            have h11 := HR2.out.1
            rw [List.take_of_length_le (by rw [HTZ.out]; exact Nat.le_refl _)] at h11
            have HI2 := Lib.hid h11
            have HB2 := Lib.hid (((Below.refl B wr0).alloc (by omega) _).trans HR2.out.2.1)
            have HK2 := Lib.hid (((Kept.refl b wr0).later HSBT.out).trans HR2.out.2.2)
            clear h11
            go_wp2
            go_roundg (gO - 1)
            case measure => omega
            case rel => exact ⟨k + 1, by omega, by go_num, HT2.out.trans (by rw [E1.out]), by rw [HT3.out, E1.out]; exact HI2.out, HBR.out.trans HB2.out, HKR.out.trans HK2.out⟩
      · replace p0 : wr.cell? ⟨b1, off + k * 5, none⟩ = some (.int .u8 1) := by rw [p0, h0]; rfl
        have e1 : putF1 x = ([42] ++ ((putF x.kids).1 ++ [42]), (putF x.kids).2) := by rw [HP1.out, h0]; rfl
        have E1 := Lib.hid e1
        clear e1 h0 HP1
        have hsb := (Below.refl wr.heap.size wr).alloc (Nat.le_refl _) (.cells #[.int .u8 1, .string ⟨x.text.toArray⟩, .string ⟨x.sub.toArray⟩, .string ⟨x.see.toArray⟩, .slice kA x.kids.length kc] 33)
        have hX1 := holdsUnder HXR.out hsb
        have x0 := hX1.cell 0
        have HX1 := Lib.hid hX1
        have hI1 := HI1.out.later hsb
        have HSB := Lib.hid hsb
        clear hX1 hsb
        go_wp2_with fail
        refine (within_any (HIH.out (manyL x.kids) (by omega)) x.kids (Nat.le_refl _) (by omega) (by omega) ⟨#[42]⟩ ⟨#[42]⟩ (by decide) (by decide) _ _ B b w.heap.size pre m (HKF.out.under (HSB.out.mono (by omega)) (fun _ h => h)) hI1 (by omega) ((HSB.out.cell (p := ⟨0, 0, none⟩) (show 0 < wr.heap.size by omega)).trans HCR.out) hB HX1.out (by omega)).mono ?_
        rintro e w2 ⟨rfl, hI2, hb2, hk2⟩
        have HI2 := Lib.hid hI2
        have HB2 := Lib.hid ((HSB.out.mono (by omega)).trans hb2)
        have HK2 := Lib.hid (((Kept.refl b wr).later HSB.out).trans hk2)
        clear hI1 hI2 hb2 hk2
        cases hok : (putF x.kids).2 with
        | true =>
          rw [hok] at E1
          clear hok
          go_wp2
          go_roundg (gk - 1)
          case measure => omega
          case rel => exact ⟨k + 1, by omega, by go_num, HT2.out.trans (by rw [E1.out]), by rw [HT3.out, E1.out]; exact HI2.out, HBR.out.trans HB2.out, HKR.out.trans HK2.out⟩
        | false =>
          rw [hok] at E1
          clear hok
          go_wp2
          go_ret
          obtain ⟨g1, g2⟩ := HF3.out (by rw [E1.out])
          exact ⟨by rw [g1]; rfl, by rw [g2, E1.out]; exact HI2.out, HB0.out.trans (HBR.out.trans HB2.out), HK0.out.trans (HKR.out.trans HK2.out)⟩
      · replace p0 : wr.cell? ⟨b1, off + k * 5, none⟩ = some (.int .u8 2) := by rw [p0, h0]; rfl
        have e1 : putF1 x = ([95] ++ ((putF x.kids).1 ++ [95]), (putF x.kids).2) := by rw [HP1.out, h0]; rfl
        have E1 := Lib.hid e1
        clear e1 h0 HP1
        have hsb := (Below.refl wr.heap.size wr).alloc (Nat.le_refl _) (.cells #[.int .u8 2, .string ⟨x.text.toArray⟩, .string ⟨x.sub.toArray⟩, .string ⟨x.see.toArray⟩, .slice kA x.kids.length kc] 33)
        have hX1 := holdsUnder HXR.out hsb
        have x0 := hX1.cell 0
        have HX1 := Lib.hid hX1
        have hI1 := HI1.out.later hsb
        have HSB := Lib.hid hsb
        clear hX1 hsb
        go_wp2_with fail
        refine (within_any (HIH.out (manyL x.kids) (by omega)) x.kids (Nat.le_refl _) (by omega) (by omega) ⟨#[95]⟩ ⟨#[95]⟩ (by decide) (by decide) _ _ B b w.heap.size pre m (HKF.out.under (HSB.out.mono (by omega)) (fun _ h => h)) hI1 (by omega) ((HSB.out.cell (p := ⟨0, 0, none⟩) (show 0 < wr.heap.size by omega)).trans HCR.out) hB HX1.out (by omega)).mono ?_
        rintro e w2 ⟨rfl, hI2, hb2, hk2⟩
        have HI2 := Lib.hid hI2
        have HB2 := Lib.hid ((HSB.out.mono (by omega)).trans hb2)
        have HK2 := Lib.hid (((Kept.refl b wr).later HSB.out).trans hk2)
        clear hI1 hI2 hb2 hk2
        cases hok : (putF x.kids).2 with
        | true =>
          rw [hok] at E1
          clear hok
          go_wp2
          go_roundg (gk - 1)
          case measure => omega
          case rel => exact ⟨k + 1, by omega, by go_num, HT2.out.trans (by rw [E1.out]), by rw [HT3.out, E1.out]; exact HI2.out, HBR.out.trans HB2.out, HKR.out.trans HK2.out⟩
        | false =>
          rw [hok] at E1
          clear hok
          go_wp2
          go_ret
          obtain ⟨g1, g2⟩ := HF3.out (by rw [E1.out])
          exact ⟨by rw [g1]; rfl, by rw [g2, E1.out]; exact HI2.out, HB0.out.trans (HBR.out.trans HB2.out), HK0.out.trans (HKR.out.trans HK2.out)⟩
      · replace p0 : wr.cell? ⟨b1, off + k * 5, none⟩ = some (.int .u8 3) := by rw [p0, h0]; rfl
        have e1 : putF1 x = ([96] ++ x.text ++ [96], true) := by rw [HP1.out, h0]; rfl
        have E1 := Lib.hid e1
        clear e1 h0 HP1
        have hsb := (Below.refl wr.heap.size wr).alloc (Nat.le_refl _) (.cells #[.int .u8 3, .string ⟨x.text.toArray⟩, .string ⟨x.sub.toArray⟩, .string ⟨x.see.toArray⟩, .slice kA x.kids.length kc] 33)
        have hX1 := holdsUnder HXR.out hsb
        have x0 := hX1.cell 0
        have HX1 := Lib.hid hX1
        have hI1 := HI1.out.later hsb
        have HSB := Lib.hid hsb
        clear hX1 hsb
        go_wp2_with fail
        refine (bldK_three B b pre [96] x.text [96] _ hI1 (by simp only [List.length_cons, List.length_nil]; omega) (by simp; omega)).mono ?_
        rintro e w2 ⟨⟨v8, rfl⟩, hI2, hb2, hk2⟩
        have HI2 : Hid (BldF B b (pre ++ ([96] ++ x.text ++ [96])) w2) := by
          unfold Hid
          exact hI2
        have HB2 := Lib.hid ((HSB.out.mono (by omega)).trans hb2)
        have HK2 := Lib.hid (((Kept.refl b wr).later HSB.out).trans hk2)
        clear hI1 hI2 hb2 hk2
        go_wp2
        go_roundg (gk - 1)
        case measure => omega
        case rel => exact ⟨k + 1, by omega, by go_num, HT2.out.trans (by rw [E1.out]), by rw [HT3.out, E1.out]; exact HI2.out, HBR.out.trans HB2.out, HKR.out.trans HK2.out⟩
      · replace p0 : wr.cell? ⟨b1, off + k * 5, none⟩ = some (.int .u8 4) := by rw [p0, h0]; rfl
        have e1 : putF1 x = ([60, 60] ++ x.text ++ [62, 62], true) := by rw [HP1.out, h0]; rfl
        have E1 := Lib.hid e1
        clear e1 h0 HP1
        have hsb := (Below.refl wr.heap.size wr).alloc (Nat.le_refl _) (.cells #[.int .u8 4, .string ⟨x.text.toArray⟩, .string ⟨x.sub.toArray⟩, .string ⟨x.see.toArray⟩, .slice kA x.kids.length kc] 33)
        have hX1 := holdsUnder HXR.out hsb
        have x0 := hX1.cell 0
        have HX1 := Lib.hid hX1
        have hI1 := HI1.out.later hsb
        have HSB := Lib.hid hsb
        clear hX1 hsb
        go_wp2_with fail
        refine (bldK_three B b pre [60, 60] x.text [62, 62] _ hI1 (by simp only [List.length_cons, List.length_nil]; omega) (by simp; omega)).mono ?_
        rintro e w2 ⟨⟨v8, rfl⟩, hI2, hb2, hk2⟩
        have HI2 : Hid (BldF B b (pre ++ ([60, 60] ++ x.text ++ [62, 62])) w2) := by
          unfold Hid
          exact hI2
        have HB2 := Lib.hid ((HSB.out.mono (by omega)).trans hb2)
        have HK2 := Lib.hid (((Kept.refl b wr).later HSB.out).trans hk2)
        clear hI1 hI2 hb2 hk2
        go_wp2
        go_roundg (gk - 1)
        case measure => omega
        case rel => exact ⟨k + 1, by omega, by go_num, HT2.out.trans (by rw [E1.out]), by rw [HT3.out, E1.out]; exact HI2.out, HBR.out.trans HB2.out, HKR.out.trans HK2.out⟩
      · replace p0 : wr.cell? ⟨b1, off + k * 5, none⟩ = some (.int .u8 5) := by rw [p0, h0]; rfl
        have E0 : Hid (putF1 x = ([40, 40] ++ (if parseB (textL x.text x.sub x.see) = some (x.text, x.sub, x.see) then textL x.text x.sub x.see else []) ++ [41, 41], decide (parseB (textL x.text x.sub x.see) = some (x.text, x.sub, x.see)))) := by unfold Hid; rw [HP1.out, h0]; rfl
        clear h0 HP1
        have hsb := (Below.refl wr.heap.size wr).alloc (Nat.le_refl _) (.cells #[.int .u8 5, .string ⟨x.text.toArray⟩, .string ⟨x.sub.toArray⟩, .string ⟨x.see.toArray⟩, .slice kA x.kids.length kc] 33)
        have hX1 := holdsUnder HXR.out hsb
        have x0 := hX1.cell 0
        have HX1 := Lib.hid hX1
        have hI1 := HI1.out.later hsb
        have HSB := Lib.hid hsb
        clear hX1 hsb
        go_wp2_with fail
        refine (putText_any x _ m ((HSB.out.cell (p := ⟨0, 0, none⟩) (show 0 < wr.heap.size by omega)).trans HCR.out) (by omega)).mono ?_
        rintro e w2 ⟨t, er, ok, rfl, hb2, hok, htl, hpf⟩
        have E1 : Hid (putF1 x = (40 :: 40 :: (t ++ [41, 41]), ok)) := E0.out.trans hpf
        have hX2 := holdsUnder HX1.out hb2
        have x1 := hX2.cell 0
        have hI2 := hI1.later hb2
        have hs2 := hb2.size
        simp only [World.size_alloc] at hs2
        have HB2 := Lib.hid (HSB.out.trans (hb2.mono (by simp)))
        clear hX2 hb2 hpf hI1 x0
        cases ok with
        | true =>
          go_wp2_with fail
          refine (bldK_three B b pre [40, 40] t [41, 41] _ hI2 (by simp only [List.length_cons, List.length_nil]; omega) (by omega)).mono ?_
          rintro e w3 ⟨⟨v8, rfl⟩, hI3, hb3, hk3⟩
          have HI2 : Hid (BldF B b (pre ++ (40 :: 40 :: (t ++ [41, 41]))) w3) := by
            unfold Hid
            simpa using hI3
          have HK2 := Lib.hid (((Kept.refl b wr).later HB2.out).trans hk3)
          replace HB2 := Lib.hid ((HB2.out.mono (show B ≤ wr.heap.size by omega)).trans hb3)
          clear hI2 hI3 hb3 hk3
          go_wp2
          go_roundg (gk - 1)
          case measure => omega
          case rel => exact ⟨k + 1, by omega, by go_num, HT2.out.trans (by rw [E1.out]), by rw [HT3.out, E1.out]; exact HI2.out, HBR.out.trans HB2.out, HKR.out.trans HK2.out⟩
        | false =>
          go_wp2_with fail
          refine (bldK_three B b pre [40, 40] t [41, 41] _ hI2 (by simp only [List.length_cons, List.length_nil]; omega) (by omega)).mono ?_
          rintro e w3 ⟨⟨v8, rfl⟩, hI3, hb3, hk3⟩
          have HI2 : Hid (BldF B b (pre ++ (40 :: 40 :: (t ++ [41, 41]))) w3) := by
            unfold Hid
            simpa using hI3
          have HK2 := Lib.hid (((Kept.refl b wr).later HB2.out).trans hk3)
          replace HB2 := Lib.hid ((HB2.out.mono (show B ≤ wr.heap.size by omega)).trans hb3)
          clear hI2 hI3 hb3 hk3
          go_wp2
          go_ret
          obtain ⟨g1, g2⟩ := HF3.out (by rw [E1.out])
          exact ⟨by rw [g1]; rfl, by rw [g2, E1.out]; exact HI2.out, HB0.out.trans (HBR.out.trans HB2.out), HK0.out.trans (HKR.out.trans HK2.out)⟩
      · replace p0 : wr.cell? ⟨b1, off + k * 5, none⟩ = some (.int .u8 6) := by rw [p0, h0]; rfl
        have e1 : putF1 x = ([94, 91] ++ ((putF x.kids).1 ++ [93]), (putF x.kids).2) := by rw [HP1.out, h0]; rfl
        have E1 := Lib.hid e1
        clear e1 h0 HP1
        have hsb := (Below.refl wr.heap.size wr).alloc (Nat.le_refl _) (.cells #[.int .u8 6, .string ⟨x.text.toArray⟩, .string ⟨x.sub.toArray⟩, .string ⟨x.see.toArray⟩, .slice kA x.kids.length kc] 33)
        have hX1 := holdsUnder HXR.out hsb
        have x0 := hX1.cell 0
        have HX1 := Lib.hid hX1
        have hI1 := HI1.out.later hsb
        have HSB := Lib.hid hsb
        clear hX1 hsb
        go_wp2_with fail
        refine (within_any (HIH.out (manyL x.kids) (by omega)) x.kids (Nat.le_refl _) (by omega) (by omega) ⟨#[94, 91]⟩ ⟨#[93]⟩ (by decide) (by decide) _ _ B b w.heap.size pre m (HKF.out.under (HSB.out.mono (by omega)) (fun _ h => h)) hI1 (by omega) ((HSB.out.cell (p := ⟨0, 0, none⟩) (show 0 < wr.heap.size by omega)).trans HCR.out) hB HX1.out (by omega)).mono ?_
        rintro e w2 ⟨rfl, hI2, hb2, hk2⟩
        have HI2 := Lib.hid hI2
        have HB2 := Lib.hid ((HSB.out.mono (by omega)).trans hb2)
        have HK2 := Lib.hid (((Kept.refl b wr).later HSB.out).trans hk2)
        clear hI1 hI2 hb2 hk2
        cases hok : (putF x.kids).2 with
        | true =>
          rw [hok] at E1
          clear hok
          go_wp2
          go_roundg (gk - 1)
          case measure => omega
          case rel => exact ⟨k + 1, by omega, by go_num, HT2.out.trans (by rw [E1.out]), by rw [HT3.out, E1.out]; exact HI2.out, HBR.out.trans HB2.out, HKR.out.trans HK2.out⟩
        | false =>
          rw [hok] at E1
          clear hok
          go_wp2
          go_ret
          obtain ⟨g1, g2⟩ := HF3.out (by rw [E1.out])
          exact ⟨by rw [g1]; rfl, by rw [g2, E1.out]; exact HI2.out, HB0.out.trans (HBR.out.trans HB2.out), HK0.out.trans (HKR.out.trans HK2.out)⟩
      · obtain ⟨z0, z1, z2, z3, z4, z5, z6⟩ := h0
        have e1 : putF1 x = ([], false) := by rw [HP1.out, if_neg z0, if_neg z1, if_neg z2, if_neg z3, if_neg z4, if_neg z5, if_neg z6]
        have E1 := Lib.hid e1
        have t0 : ((x.kind : Int) == 0) = false := by rw [beq_eq_false_iff_ne]; omega
        have t1 : ((x.kind : Int) == 1) = false := by rw [beq_eq_false_iff_ne]; omega
        have t2 : ((x.kind : Int) == 2) = false := by rw [beq_eq_false_iff_ne]; omega
        have t3 : ((x.kind : Int) == 3) = false := by rw [beq_eq_false_iff_ne]; omega
        have t4 : ((x.kind : Int) == 4) = false := by rw [beq_eq_false_iff_ne]; omega
        have t5 : ((x.kind : Int) == 5) = false := by rw [beq_eq_false_iff_ne]; omega
        have t6 : ((x.kind : Int) == 6) = false := by rw [beq_eq_false_iff_ne]; omega
        have hsb := (Below.refl wr.heap.size wr).alloc (Nat.le_refl _) (.cells #[.int .u8 (x.kind : Int), .string ⟨x.text.toArray⟩, .string ⟨x.sub.toArray⟩, .string ⟨x.see.toArray⟩, .slice kA x.kids.length kc] 33)
        have HI2 := Lib.hid (HI1.out.later hsb)
        have HB2 := Lib.hid (hsb.mono (show B ≤ wr.heap.size by omega))
        have HK2 := Lib.hid ((Kept.refl b wr).later hsb)
        clear e1 hsb
        go_wp2
        go_ret
        obtain ⟨g1, g2⟩ := HF3.out (by rw [E1.out])
        exact ⟨by rw [g1]; rfl, by rw [g2, E1.out, List.append_nil]; exact HI2.out, HB0.out.trans (HBR.out.trans HB2.out), HK0.out.trans (HKR.out.trans HK2.out)⟩
    · obtain rfl : k = n := by omega
      go_wp2
      go_ret
      have h1 := HR.out.1
      have h2 := HT.out
      rw [List.take_of_length_le (by rw [HN.out]; exact Nat.le_refl _)] at h1 h2
      exact ⟨by rw [h2]; rfl, h1, HB0.out.trans HR.out.2.1, HK0.out.trans HR.out.2.2⟩
theorem put_any (N : Nat) : PutOk N := by
  induction N using Nat.strongRecOn with
  | _ N ih => exact put_step ih
end Go.Proofs.YtgiiglcgfbnaoaaGreatDoor

namespace Go.Bd
mutual
def dw1 : Sp → Nat
  | ⟨k, t, _, _, kids⟩ => (if k = 0 then max 1 t.length else 1) + dwL kids
def dwL : List Sp → Nat
  | [] => 0
  | x :: l => dw1 x + dwL l
end
mutual
theorem many_dw1 : ∀ x : Sp, many1 x ≤ dw1 x
  | ⟨k, t, u, v, ks⟩ => by
    have := many_dwL ks
    simp only [many1, dw1]
    split <;> omega
theorem many_dwL : ∀ l : List Sp, manyL l ≤ dwL l
  | [] => Nat.le_refl _
  | x :: l => by
    have h1 := many_dw1 x
    have h2 := many_dwL l
    simp only [manyL, dwL]; omega
end
theorem dwL_app : ∀ a b : List Sp, dwL (a ++ b) = dwL a + dwL b
  | [], b => by simp [dwL]
  | x :: a, b => by rw [List.cons_append, dwL, dwL, dwL_app a b, Nat.add_assoc]
theorem dw_txt {s : Bs} (h : s ≠ []) : dw1 (txt s) = s.length := by
  have := List.length_pos_iff.2 h
  simp only [txt, dw1, if_true, dwL]; omega
def dwR (r : Rw) : Nat := dwL r.sp + r.tx.length
def dwF (f : Fr) : Nat := dwR f.row + f.sign.length
def dwFs (l : List Fr) : Nat := (l.map dwF).sum
theorem dwFs_cons (f : Fr) (l : List Fr) : dwFs (f :: l) = dwF f + dwFs l := by simp [dwFs]
theorem dwR_write (r : Rw) (s : Bs) : dwR (r.write s) = dwR r + s.length := by simp [dwR, Rw.write]; omega
theorem dwL_flush (r : Rw) : dwL r.flush.sp = dwR r := by
  unfold Rw.flush
  split
  · rename_i h; simp [dwR, h]
  · rename_i h
    simp only [dwL_app, dwL, dw_txt h, dwR]; omega
theorem dwR_add (r : Rw) (x : Sp) : dwR (r.add x) ≤ dwR r + dw1 x := by
  obtain ⟨k, t, u, v, ks⟩ := x
  unfold Rw.add
  split
  · rename_i h
    rw [dwR_write, dw1, if_pos h]; simp only; omega
  · simp only [dwR, dwL_app, dwL, List.length_nil]
    rw [dwL_flush, dwR]; omega
theorem dwR_adds : ∀ (l : List Sp) (r : Rw), dwR (l.foldl Rw.add r) ≤ dwR r + dwL l
  | [], r => by simp [dwL]
  | x :: l, r => by
    have h1 := dwR_adds l (r.add x)
    have h2 := dwR_add r x
    simp only [List.foldl_cons, dwL]; omega
theorem dwR_spill (f : Fr) (r : Rw) : dwR (spill f r) ≤ dwR r + dwF f := by
  have := dwR_adds f.row.sp (r.write f.sign)
  rw [dwR_write] at this
  rw [spill, dwR_write, dwF, show dwR f.row = dwL f.row.sp + f.row.tx.length from rfl]
  omega
theorem dw_onTop {g : Rw → Rw} {n : Nat} (h : ∀ r, dwR (g r) ≤ dwR r + n) (l : List Fr) : dwFs (onTop g l) ≤ dwFs l + n := by
  cases l with
  | nil => simp [onTop]
  | cons f r =>
    have := h f.row
    simp only [onTop, dwFs_cons, dwF]
    omega
theorem dw_write (st : Pst) (s : Bs) : dwFs (st.write s).fs ≤ dwFs st.fs + s.length := dw_onTop (g := (·.write s)) (n := s.length) (fun r => by rw [dwR_write]; exact Nat.le_refl _) st.fs
theorem dw_drop1 (st : Pst) : dwFs st.drop1.fs ≤ dwFs st.fs := by
  obtain ⟨fs, fa⟩ := st
  match fs with
  | [] => exact Nat.le_refl _
  | [f] => exact Nat.le_refl _
  | f :: g :: r =>
    have := dw_onTop (dwR_spill f) (g :: r)
    simp only [Pst.drop1, dwFs_cons] at *
    omega
theorem dw_dropN : ∀ (n : Nat) (st : Pst), dwFs (st.dropN n).fs ≤ dwFs st.fs
  | 0, _ => Nat.le_refl _
  | n + 1, st => Nat.le_trans (dw_dropN n st.drop1) (dw_drop1 st)
theorem dw_fin (st : Pst) (n : Nat) : dwFs (st.fin n).fs ≤ dwFs st.fs + 1 := by
  have h := dw_dropN (st.fs.length - 1 - n) st
  unfold Pst.fin Pst.drop
  generalize st.dropN (st.fs.length - 1 - n) = sd at h
  obtain ⟨fs, fa⟩ := sd
  match fs, h with
  | [], h => simp only [Pst.shut] at *; omega
  | f :: r, h =>
    have e : dw1 ⟨f.kind, [], [], [], f.row.flush.sp⟩ = 1 + dwR f.row := by
      simp only [dw1, dwL_flush]; split <;> rfl
    have := dw_onTop (n := 1 + dwR f.row) (g := (·.add ⟨f.kind, [], [], [], f.row.flush.sp⟩)) (fun q => by rw [← e]; exact dwR_add q _) r
    simp only [Pst.shut, dwFs_cons, dwF] at *
    omega
theorem dw_between {st : Pst} {s a b : Bs} {i : Nat} {asf : Bs → Sp ⊕ Nat} (has : asf = codeS ∨ asf = refS ∨ asf = termS) (ha : 1 ≤ a.length) (hb : 1 ≤ b.length) (hi : i + a.length ≤ s.length) (h : dwFs st.fs ≤ i) : dwFs (st.between s i a b asf).1.fs ≤ (st.between s i a b asf).2 := by
  unfold Pst.between
  split
  · have := dw_write st a
    exact Nat.le_trans this (by simp only; omega)
  · rename_i n hn
    obtain ⟨h1, h2⟩ := nextAt_some hi hn
    split
    · have := dw_write st ((s.drop i).take (n + b.length - i))
      rw [List.length_take, List.length_drop] at this
      exact Nat.le_trans this (by simp only; omega)
    · rename_i x hx
      obtain ⟨_, p2, p3, _⟩ := as_wt has hx
      have e : dw1 x = 1 := by
        obtain ⟨k, t, u, v, ks⟩ := x
        simp only at p2 p3
        subst p3
        simp only [dw1, if_neg p2, dwL]
      have := dw_onTop (n := 1) (g := (·.add x)) (fun q => by rw [← e]; exact dwR_add q _) st.fs
      exact Nat.le_trans this (by simp only; omega)
theorem dw_begin (st : Pst) (k i : Nat) (sign : Bs) : dwFs (st.begin k i sign).fs = dwFs st.fs + sign.length := by
  simp only [Pst.begin, dwFs_cons, dwF, dwR, Rw.none, dwL, List.length_nil]; omega
theorem dw_mark {st : Pst} {s : Bs} {i k : Nat} (h : dwFs st.fs ≤ i) : dwFs (st.mark s i k).fs ≤ i + 1 := by
  unfold Pst.mark
  split
  · have := dw_fin st (lastK k st.fs); omega
  · split
    · have := dw_write st [s.getD i 0]; simp only [List.length_cons, List.length_nil] at this; omega
    · split
      · have := dw_write st [s.getD i 0]; simp only [List.length_cons, List.length_nil] at this; exact Nat.le_trans this (by omega)
      · rw [dw_begin]; simp only [List.length_cons, List.length_nil]; omega
theorem dw_step {st : Pst} {s : Bs} {i : Nat} (hi : i < s.length) (h : dwFs st.fs ≤ i) : dwFs (st.step s i).1.fs ≤ (st.step s i).2 := by
  unfold Pst.step
  split
  · have := dw_write st [s.getD (i + 1) 0]; simp only [List.length_cons, List.length_nil] at this; simp only; omega
  split
  · exact dw_between (.inl rfl) (by simp) (by simp) (by simp; omega) h
  split
  · rename_i hp; exact dw_between (.inr (.inl rfl)) (by simp) (by simp) (prefix_two hp) h
  split
  · rename_i hp; exact dw_between (.inr (.inr rfl)) (by simp) (by simp) (prefix_two hp) h
  split
  · simp only
    split
    · rw [dw_begin]; simp only [List.length_cons, List.length_nil]; omega
    · have := dw_write st [94, 91]; simp only [List.length_cons, List.length_nil] at this; exact Nat.le_trans this (by omega)
  split
  · have := dw_fin st (lastK 6 st.fs); simp only; omega
  split
  · exact dw_mark h
  split
  · exact dw_mark h
  · have := dw_write st [s.getD i 0]; simp only [List.length_cons, List.length_nil] at this; simp only; omega
theorem dw_run {s : Bs} : ∀ (n i : Nat) (st : Pst), Inv st i → dwFs st.fs ≤ i → i ≤ s.length → dwFs (runP s n i st).fs ≤ s.length
  | 0, i, st, _, h, hi => Nat.le_trans h hi
  | n + 1, i, st, hI, h, hi => by
    rw [runP]
    split
    · rename_i hlt
      obtain ⟨h3, h4, h5⟩ := hI.step hlt
      exact dw_run n _ _ h3 (dw_step hlt h) h5
    · exact Nat.le_trans h hi
theorem many_spans (s : Bs) : manyL (spansOf s) ≤ s.length := by
  have h := dw_run (s := s) s.length 0 Pst.first Inv.first (by decide) (Nat.zero_le _)
  have h2 := dw_dropN ((runP s s.length 0 Pst.first).fs.length - 1 - 0) (runP s s.length 0 Pst.first)
  obtain ⟨f, hf⟩ := endP_one s
  have h3 : dwFs (endP s).fs ≤ s.length := Nat.le_trans h2 h
  rw [hf, dwFs_cons] at h3
  unfold spansOf
  rw [hf]
  simp only
  have h4 := many_dwL f.row.flush.sp
  rw [dwL_flush] at h4
  unfold dwF at h3
  omega
theorem faultsOf_nil (s : Bs) : faultsOf s = [] ↔ faultsAt s = [] := by
  unfold faultsOf
  have := (sortF_perm (faultsAt s)).length_eq
  constructor
  · intro h
    rw [List.map_eq_nil_iff] at h
    rw [h] at this
    exact List.eq_nil_of_length_eq_zero this.symm
  · intro h
    rw [h]; rfl
end Go.Bd
namespace Go.Proofs.YtgiiglcgfbnaoaaGreatDoor
open Go.RowKit Go.Bd
/-- what Text answers -/
def textSV (o : Option Bs) : Value := match o with | some s => .tuple #[.string ⟨s.toArray⟩, .int .i64 0] | none => .tuple #[.string ⟨#[]⟩, .int .i64 1]
set_option maxRecDepth 100000 in
set_option maxHeartbeats 2000000 in
theorem textSpans_any (l : List Sp) (hm : manyL l ≤ 1000000000) (hw : wlL l ≤ 100000) (v : Value) (w : World) (m : Int) (hF : Forest w (· < w.heap.size) v l) (hc : w.cell? ⟨0, 0, none⟩ = some (.int .i64 m)) :
    Calls Tryz.prog 13 #[v] w fun e w' => e = .returned (textSV (textOf l)) ∧ Below w.heap.size w w' := by
  obtain ⟨A, c, rfl, hcc⟩ := hF.len
  have hB : 0 < w.heap.size := World.block_lt_of_cell? w _ hc
  have hbl := (Below.refl w.heap.size w).alloc (Nat.le_refl _) (.cells #[.pointer none, .slice none 0 0] 52)
  have cp := put_any _ l (Nat.le_refl _) hm (by omega) _ _ w.heap.size w.heap.size [] m (hF.under hbl (fun _ h => h)) (BldF.fresh w) (by simp only [List.length_nil]; omega) ((hbl.cell (p := ⟨0, 0, none⟩) hB).trans hc) hB
  have hpl := putF_len l
  have HT := Lib.hid (textOf_F l)
  have HF := Lib.hid hF
  have HC := Lib.hid hc
  obtain ⟨n, hn⟩ : ∃ n, l.length = n := ⟨_, rfl⟩
  obtain ⟨ok, hok⟩ : ∃ ok, (putF l).2 = ok := ⟨_, rfl⟩
  obtain ⟨out, hout⟩ : ∃ out, (putF l).1 = out := ⟨_, rfl⟩
  rw [hok, hout] at HT cp
  rw [hout] at hpl
  simp only [hn] at HF cp ⊢
  clear hF hc hn hok hout hcc hbl
  simp only [List.nil_append] at cp
  cases ok with
  | false =>
    have HT2 : Hid (textOf l = none) := by unfold Hid; rw [HT.out, if_neg (by simp)]
    go_enter Tryz.func13, Tryz.ntmps13
    go_wp2_with fail
    refine cp.mono ?_
    clear cp
    rintro e w2 ⟨rfl, hI2, hb2, hk2⟩
    have HB2 := Lib.hid (((Below.refl w.heap.size w).alloc (Nat.le_refl _) (.cells #[.pointer none, .slice none 0 0] 52)).trans hb2)
    clear hI2 hb2 hk2
    go_wp2
    go_ret2
    exact ⟨by rw [HT2.out]; rfl, HB2.out⟩
  | true =>
    have HFN := Lib.hid (faultsOf_nil out)
    have hms := many_spans out
    go_enter Tryz.func13, Tryz.ntmps13
    go_wp2_with fail
    refine cp.mono ?_
    clear cp
    rintro e w2 ⟨rfl, hI2, hb2, hk2⟩
    have hs2 := hb2.size
    simp only [World.size_alloc] at hs2
    have cst := bldF_string w.heap.size w.heap.size out w2 hI2 (by omega)
    have HB2 := Lib.hid (((Below.refl w.heap.size w).alloc (Nat.le_refl _) (.cells #[.pointer none, .slice none 0 0] 52)).trans hb2)
    clear hI2 hb2 hk2
    go_wp2_with fail
    refine cst.mono ?_
    clear cst
    rintro e w3 ⟨rfl, hb3⟩
    have HB3 := Lib.hid (HB2.out.trans hb3)
    have hs3 := hb3.size
    have cpa := parseSpans_any ⟨out.toArray⟩ w3 (by rw [size_mk]; omega) m ((HB3.out.cell (p := ⟨0, 0, none⟩) hB).trans HC.out)
    simp only [List.toList_toArray] at cpa
    clear hb3
    go_wp2_with fail
    refine cpa.mono ?_
    clear cpa
    rintro e w4 ⟨sv, fv, rfl, hb4, hf4, hr4⟩
    have HB4 := Lib.hid (HB3.out.trans (hb4.mono (by omega)))
    have hs4 := hb4.size
    obtain ⟨Af, cf, rfl, hlf⟩ := own_slice2 hr4
    clear hr4 hb4
    by_cases hfe : faultsOf out = []
    · have h0 : (faultsOf out).length = 0 := by rw [hfe]; rfl
      have HFE := Lib.hid (HFN.out.1 hfe)
      rw [h0]
      clear hfe h0 hlf
      have csm := same_any (manyL (spansOf out)) (spansOf out) l (Nat.le_refl _) (by omega) sv (.slice A n c) w4 w4.heap.size hf4 ((HF.out.under HB4.out (fun _ h => h)).keep (fun b hb => by omega) (fun _ _ _ h => h)) (Nat.le_refl _)
      obtain ⟨A4, c4, rfl, _⟩ := hf4.len
      generalize (spansOf out).length = n4 at csm
      cases hsm : sameL (spansOf out) l with
      | true =>
        have HT2 : Hid (textOf l = some out) := by unfold Hid; rw [HT.out, if_pos ⟨by trivial, HFE.out, hsm⟩]
        rw [hsm] at csm
        clear hf4 hsm
        go_wp2_with fail
        refine csm.mono ?_
        clear csm
        rintro e w5 ⟨rfl, hb5⟩
        have HB5 := Lib.hid (HB4.out.trans (hb5.mono (by omega)))
        clear hb5
        go_wp2
        go_ret2
        exact ⟨by rw [HT2.out]; rfl, HB5.out⟩
      | false =>
        have HT2 : Hid (textOf l = none) := by unfold Hid; rw [HT.out, if_neg (by rw [hsm]; simp)]
        rw [hsm] at csm
        clear hf4 hsm
        go_wp2_with fail
        refine csm.mono ?_
        clear csm
        rintro e w5 ⟨rfl, hb5⟩
        have HB5 := Lib.hid (HB4.out.trans (hb5.mono (by omega)))
        clear hb5
        go_wp2
        go_ret2
        exact ⟨by rw [HT2.out]; rfl, HB5.out⟩
    · have h0 : 0 < (faultsOf out).length := List.length_pos_iff.2 hfe
      have HT2 : Hid (textOf l = none) := by unfold Hid; rw [HT.out, if_neg (fun h => hfe (HFN.out.2 h.2.1))]
      obtain ⟨A4, c4, rfl, _⟩ := hf4.len
      generalize (faultsOf out).length = nf at h0 hlf ⊢
      clear hfe hf4
      go_wp2
      go_ret2
      exact ⟨by rw [HT2.out]; rfl, HB4.out⟩
end Go.Proofs.YtgiiglcgfbnaoaaGreatDoor
namespace Go.Proofs.YtgiiglcgfbnaoaaGreatDoor
open Go.RowKit Go.Bd
/-- what is known of spans that are compared, so many at most -/
def SamesOk (N : Nat) : Prop := ∀ (l m : List Sp), manyL l ≤ N → manyL l ≤ 1000000000 → ∀ (v u : Value) (w : World) (B : Nat), Forest w (· < B) v l → Forest w (· < B) u m → B ≤ w.heap.size →
    Calls Tryz.prog 36 #[v, u] w fun e w' => e = .returned (.bool (sameL l m)) ∧ Below B w w'
set_option maxRecDepth 100000 in
set_option maxHeartbeats 2000000 in
theorem sames1_any {N : Nat} (ih : SamesOk N) (x y : Sp) (hN : manyL x.kids ≤ N) (hm : manyL x.kids ≤ 1000000000) (v u : Value) (w : World) (B : Nat) (hF : Forest w (· < B) v x.kids) (hG : Forest w (· < B) u y.kids) (hB : B ≤ w.heap.size) :
    Calls Tryz.prog 66 #[.agg #[.int .u8 (x.kind : Int), .string ⟨x.text.toArray⟩, .string ⟨x.sub.toArray⟩, .string ⟨x.see.toArray⟩, v], .agg #[.int .u8 (y.kind : Int), .string ⟨y.text.toArray⟩, .string ⟨y.sub.toArray⟩, .string ⟨y.see.toArray⟩, u]] w fun e w' => e = .returned (.bool (same1 x y)) ∧ Below B w w' := by
  obtain ⟨A, c, rfl, hc⟩ := hF.len
  obtain ⟨A', c', rfl, hc'⟩ := hG.len
  have HF := Lib.hid hF
  have HG := Lib.hid hG
  have HS : Hid (same1 x y = (x.kind == y.kind && (x.text == y.text && (x.sub == y.sub && (x.see == y.see && sameL x.kids y.kids))))) := by
    unfold Hid
    obtain ⟨k, t, u, v, ks⟩ := x
    obtain ⟨k', t', u', v', ks'⟩ := y
    simp only [same1]
  have HI := Lib.hid ih
  clear hF hG ih
  go_enter Tryz.func66, Tryz.ntmps66
  go_wp2_with fail
  · have hkq : x.kind = y.kind := by omega
    have e1 : same1 x y = sameL x.kids y.kids := by
      rw [HS.out, hkq, ‹x.text = y.text›, ‹x.sub = y.sub›, ‹x.see = y.see›]
      simp only [beq_self_eq_true, Bool.true_and]
    have E1 := Lib.hid e1
    clear e1 hkq
    refine (HI.out x.kids y.kids hN hm _ _ _ B (HF.out.under (((Below.refl B w).alloc hB _).alloc (by simp; omega) _) (fun _ h => h)) (HG.out.under (((Below.refl B w).alloc hB _).alloc (by simp; omega) _) (fun _ h => h)) (by simp; omega)).mono ?_
    rintro e w2 ⟨rfl, hb2⟩
    have HB := Lib.hid ((((Below.refl B w).alloc hB _).alloc (by simp; omega) _).trans hb2)
    clear hb2
    go_wp2
    go_ret
    exact ⟨by rw [E1.out]; rfl, HB.out⟩
  all_goals
    have e1 : same1 x y = false := by
      rw [HS.out]
      have hk : (x.kind == y.kind) = decide ((x.kind : Int) = (y.kind : Int)) := by
        rw [Bool.eq_iff_iff]; simp only [beq_iff_eq, decide_eq_true_eq]; omega
      rw [hk]
      simp only [*, decide_false, Bool.false_and, Bool.and_false, beq_self_eq_true, Bool.true_and, Bool.and_eq_false_iff, beq_eq_false_iff_ne, ne_eq, not_false_eq_true, true_or, or_true, decide_true]
    have E1 := Lib.hid e1
    clear e1
    go_ret
    exact ⟨by rw [E1.out]; rfl, ((Below.refl B w).alloc hB _).alloc (by simp; omega) _⟩
set_option maxRecDepth 100000 in
set_option maxHeartbeats 2000000 in
theorem sames_step {N : Nat} (ih : ∀ M, M < N → SamesOk M) (l m : List Sp) (hN : manyL l ≤ N) (hm : manyL l ≤ 1000000000) (v u : Value) (w : World) (B : Nat) (hF : Forest w (· < B) v l) (hG : Forest w (· < B) u m) (hB : B ≤ w.heap.size) :
    Calls Tryz.prog 36 #[v, u] w fun e w' => e = .returned (.bool (sameL l m)) ∧ Below B w w' := by
  obtain ⟨A, c, rfl, hc⟩ := hF.len
  obtain ⟨A', c', rfl, hc'⟩ := hG.len
  have hlm := many_len l
  by_cases hln : l.length = m.length
  · have HF := Lib.hid hF
    have HG := Lib.hid hG
    have HI := Lib.hid ih
    rw [← hln] at HG hc' ⊢
    obtain ⟨n, hn⟩ : ∃ n, l.length = n := ⟨_, rfl⟩
    have HN := Lib.hid hn
    have HN' := Lib.hid (hln.symm.trans hn)
    simp only [hn] at hc hc' hlm HF HG ⊢
    clear hF hG ih hln hn
    have HD : Hid (∀ b, sameL l m = b ↔ (if b = true then l = m else l ≠ m)) := fun b => by
      cases b with
      | true => simp [sameL_eq]
      | false =>
        rw [← Bool.not_eq_true, sameL_eq]; simp
    go_enter Tryz.func36, Tryz.ntmps36
    go_wp2
    go_loopg [5] n (fun q i wr => ∃ k : Nat, k + q = n ∧ i = .int .i64 (k : Int) ∧ Hid (l.take k = m.take k ∧ Below B w wr))
    case atStart => exact ⟨0, by omega, rfl, rfl, Below.refl _ _⟩
    case round =>
      obtain ⟨k, hk, rfl, HR⟩ := hrel
      by_cases hlt : k < n
      · obtain ⟨x, hx⟩ : ∃ x, l[k]? = some x := ⟨_, List.getElem?_eq_getElem (by rw [HN.out]; exact hlt)⟩
        obtain ⟨y, hy⟩ : ∃ y, m[k]? = some y := ⟨_, List.getElem?_eq_getElem (by rw [HN'.out]; exact hlt)⟩
        obtain ⟨b1, off, kA, kc, rfl, hb1, hkF, p0, p1, p2, p3, p4⟩ := HF.out.at hx
        obtain ⟨b2, off2, kA2, kc2, rfl, hb2, hkG, q0, q1, q2, q3, q4⟩ := HG.out.at hy
        have hbl := HR.out.2
        have hrb := hbl.size
        replace p0 := (hbl.cell (p := ⟨b1, off + k * 5, none⟩) hb1).trans p0
        replace p1 := (hbl.cell (p := ⟨b1, off + k * 5 + 1, none⟩) hb1).trans p1
        replace p2 := (hbl.cell (p := ⟨b1, off + k * 5 + 2, none⟩) hb1).trans p2
        replace p3 := (hbl.cell (p := ⟨b1, off + k * 5 + 3, none⟩) hb1).trans p3
        replace p4 := (hbl.cell (p := ⟨b1, off + k * 5 + 4, none⟩) hb1).trans p4
        replace q0 := (hbl.cell (p := ⟨b2, off2 + k * 5, none⟩) hb2).trans q0
        replace q1 := (hbl.cell (p := ⟨b2, off2 + k * 5 + 1, none⟩) hb2).trans q1
        replace q2 := (hbl.cell (p := ⟨b2, off2 + k * 5 + 2, none⟩) hb2).trans q2
        replace q3 := (hbl.cell (p := ⟨b2, off2 + k * 5 + 3, none⟩) hb2).trans q3
        replace q4 := (hbl.cell (p := ⟨b2, off2 + k * 5 + 4, none⟩) hb2).trans q4
        have hgt := many_get hx
        have HX := Lib.hid hx
        have HY := Lib.hid hy
        have HKF := Lib.hid (hkF.under hbl (fun _ h => h))
        have HKG := Lib.hid (hkG.under hbl (fun _ h => h))
        have HS1 := Lib.hid (same1_eq x y)
        clear hx hy hkF hkG hbl
        go_wp2
        refine wp_region_held_drew (S := (fun w' => w'.cell? ⟨b1, off + k * 5, none⟩ = some (.int .u8 (x.kind : Int)) ∧ w'.cell? ⟨b1, off + k * 5 + 1, none⟩ = some (.string ⟨x.text.toArray⟩) ∧ w'.cell? ⟨b1, off + k * 5 + 2, none⟩ = some (.string ⟨x.sub.toArray⟩) ∧ w'.cell? ⟨b1, off + k * 5 + 3, none⟩ = some (.string ⟨x.see.toArray⟩) ∧ w'.cell? ⟨b1, off + k * 5 + 4, none⟩ = some (.slice kA x.kids.length kc) ∧ w'.cell? ⟨b2, off2 + k * 5, none⟩ = some (.int .u8 (y.kind : Int)) ∧ w'.cell? ⟨b2, off2 + k * 5 + 1, none⟩ = some (.string ⟨y.text.toArray⟩) ∧ w'.cell? ⟨b2, off2 + k * 5 + 2, none⟩ = some (.string ⟨y.sub.toArray⟩) ∧ w'.cell? ⟨b2, off2 + k * 5 + 3, none⟩ = some (.string ⟨y.see.toArray⟩) ∧ w'.cell? ⟨b2, off2 + k * 5 + 4, none⟩ = some (.slice kA2 y.kids.length kc2))) (by kernel_rfl) ?_ (fun hHeld0 => ?_)
        · (try dsimp only)
          first | exact ⟨p0, p1, p2, p3, p4, q0, q1, q2, q3, q4⟩ | exact ⟨r0, r1, r2, r3, r4, s0, s1, s2, s3, s4⟩
        refine wpAnyH_take (i := 0) (v := ?_) rfl (by kernel_rfl) (by kernel_rfl) (by kernel_rfl) (fun _ _ _ h => h) (Or.inl ⟨by kernel_rfl, ?_⟩) (by assumption) ?_
        rotate_left
        · (intro w hSw; (try dsimp only at hSw); go_simp; (first | done | with_reducible rfl))
        (try simp only [Act.put, List.setIfInBounds_toArray, List.set_cons_zero, List.set_cons_succ])
        refine wpAnyH_take (i := 1) (v := ?_) rfl (by kernel_rfl) (by kernel_rfl) (by kernel_rfl) (fun _ _ _ h => h) (Or.inl ⟨by kernel_rfl, ?_⟩) (by assumption) ?_
        rotate_left
        · (intro w hSw; (try dsimp only at hSw); go_simp; (first | done | with_reducible rfl))
        (try simp only [Act.put, List.setIfInBounds_toArray, List.set_cons_zero, List.set_cons_succ])
        refine wpAnyH_take (i := 2) (v := ?_) rfl (by kernel_rfl) (by kernel_rfl) (by kernel_rfl) (fun _ _ _ h => h) (Or.inl ⟨by kernel_rfl, ?_⟩) (by assumption) ?_
        rotate_left
        · (intro w hSw; (try dsimp only at hSw); go_simp; (first | done | with_reducible rfl))
        (try simp only [Act.put, List.setIfInBounds_toArray, List.set_cons_zero, List.set_cons_succ])
        refine wpAnyH_take (i := 3) (v := ?_) rfl (by kernel_rfl) (by kernel_rfl) (by kernel_rfl) (fun _ _ _ h => h) (Or.inl ⟨by kernel_rfl, ?_⟩) (by assumption) ?_
        rotate_left
        · (intro w hSw; (try dsimp only at hSw); go_simp; (first | done | with_reducible rfl))
        (try simp only [Act.put, List.setIfInBounds_toArray, List.set_cons_zero, List.set_cons_succ])
        refine wpAnyH_take (i := 4) (v := ?_) rfl (by kernel_rfl) (by kernel_rfl) (by kernel_rfl) (fun _ _ _ h => h) (Or.inl ⟨by kernel_rfl, ?_⟩) (by assumption) ?_
        rotate_left
        · (intro w hSw; (try dsimp only at hSw); go_simp; (first | done | with_reducible rfl))
        (try simp only [Act.put, List.setIfInBounds_toArray, List.set_cons_zero, List.set_cons_succ])
        refine wpAnyH_take (i := 5) (v := ?_) rfl (by kernel_rfl) (by kernel_rfl) (by kernel_rfl) (fun _ _ _ h => h) (Or.inl ⟨by kernel_rfl, ?_⟩) (by assumption) ?_
        rotate_left
        · (intro w hSw; (try dsimp only at hSw); go_simp; (first | done | with_reducible rfl))
        (try simp only [Act.put, List.setIfInBounds_toArray, List.set_cons_zero, List.set_cons_succ])
        refine wpAnyH_take (i := 6) (v := ?_) rfl (by kernel_rfl) (by kernel_rfl) (by kernel_rfl) (fun _ _ _ h => h) (Or.inl ⟨by kernel_rfl, ?_⟩) (by assumption) ?_
        rotate_left
        · (intro w hSw; (try dsimp only at hSw); go_simp; (first | done | with_reducible rfl))
        (try simp only [Act.put, List.setIfInBounds_toArray, List.set_cons_zero, List.set_cons_succ])
        refine wpAnyH_take (i := 7) (v := ?_) rfl (by kernel_rfl) (by kernel_rfl) (by kernel_rfl) (fun _ _ _ h => h) (Or.inl ⟨by kernel_rfl, ?_⟩) (by assumption) ?_
        rotate_left
        · (intro w hSw; (try dsimp only at hSw); go_simp; (first | done | with_reducible rfl))
        (try simp only [Act.put, List.setIfInBounds_toArray, List.set_cons_zero, List.set_cons_succ])
        refine wpAnyH_ready (rs := [8]) (by kernel_rfl) (by simp) ?_
        refine AllReadyH.cons rfl (fun K hK => ?_) AllReadyH.nil
        go_simp
        refine (sames1_any (HI.out (manyL x.kids) (by omega)) x y (Nat.le_refl _) (by omega) _ _ wr.drew B (HKF.out.keep (fun _ h => h) (fun _ _ _ h => h)) (HKG.out.keep (fun _ h => h) (fun _ _ _ h => h)) (by first | omega | (show B ≤ wr.heap.size; omega))).mono ?_
        rintro e w2 ⟨rfl, hb2'⟩
        have HB2 := Lib.hid (((Below.refl B wr).drew).trans hb2')
        clear hb2'
        have r0 := (HB2.out.cell (p := ⟨b1, off + k * 5, none⟩) (by omega)).trans p0
        have r1 := (HB2.out.cell (p := ⟨b1, off + k * 5 + 1, none⟩) (by omega)).trans p1
        have r2 := (HB2.out.cell (p := ⟨b1, off + k * 5 + 2, none⟩) (by omega)).trans p2
        have r3 := (HB2.out.cell (p := ⟨b1, off + k * 5 + 3, none⟩) (by omega)).trans p3
        have r4 := (HB2.out.cell (p := ⟨b1, off + k * 5 + 4, none⟩) (by omega)).trans p4
        have s0 := (HB2.out.cell (p := ⟨b2, off2 + k * 5, none⟩) (by omega)).trans q0
        have s1 := (HB2.out.cell (p := ⟨b2, off2 + k * 5 + 1, none⟩) (by omega)).trans q1
        have s2 := (HB2.out.cell (p := ⟨b2, off2 + k * 5 + 2, none⟩) (by omega)).trans q2
        have s3 := (HB2.out.cell (p := ⟨b2, off2 + k * 5 + 3, none⟩) (by omega)).trans q3
        have s4 := (HB2.out.cell (p := ⟨b2, off2 + k * 5 + 4, none⟩) (by omega)).trans q4
        go_wp2_with fail
        refine hK.out _ _ ?_ (fun hHeld1 => ?_)
        · (try dsimp only)
          first | exact ⟨p0, p1, p2, p3, p4, q0, q1, q2, q3, q4⟩ | exact ⟨r0, r1, r2, r3, r4, s0, s1, s2, s3, s4⟩
        clear hK K hHeld0
        (try simp only [Act.put, List.setIfInBounds_toArray, List.set_cons_zero, List.set_cons_succ])
        refine wpAnyH_take (i := 9) (v := ?_) rfl (by kernel_rfl) (by kernel_rfl) (by kernel_rfl) (fun _ _ _ h => h) (Or.inl ⟨by kernel_rfl, ?_⟩) (by assumption) ?_
        rotate_left
        · (intro w hSw; (try dsimp only at hSw); go_simp; (first | done | with_reducible rfl))
        (try simp only [Act.put, List.setIfInBounds_toArray, List.set_cons_zero, List.set_cons_succ])
        refine wpAnyH_done (by kernel_rfl) ?_ _
        cases hs : same1 x y with
        | true =>
          have HE := Lib.hid (HS1.out.1 hs)
          clear hs
          go_wp2
          go_roundg (gk - 1)
          case measure => omega
          case rel => exact ⟨k + 1, by omega, by go_num, by rw [List.take_add_one, List.take_add_one, HX.out, HY.out, HE.out, HR.out.1], HR.out.2.trans HB2.out⟩
        | false =>
          have HE : Hid (x ≠ y) := fun e => by rw [HS1.out.2 e] at hs; cases hs
          clear hs
          go_wp2
          go_ret
          refine ⟨?_, HR.out.2.trans HB2.out⟩
          have e1 : sameL l m = false := (HD.out false).2 (by
            rw [if_neg (by decide)]
            rintro rfl
            have h1 := HX.out
            rw [HY.out] at h1
            injection h1 with h1
            exact HE.out h1.symm)
          rw [e1]; rfl
      · obtain rfl : k = n := by omega
        go_wp2
        go_ret
        have e1 : sameL l m = true := (HD.out true).2 (by
          rw [if_pos rfl]
          have h1 := HR.out.1
          rw [List.take_of_length_le (by rw [HN.out]; exact Nat.le_refl _), List.take_of_length_le (by rw [HN'.out]; exact Nat.le_refl _)] at h1
          exact h1)
        exact ⟨by rw [e1]; rfl, HR.out.2⟩
  · have e1 : sameL l m = false := by
      rw [← Bool.not_eq_true, sameL_eq]
      rintro rfl
      exact hln rfl
    have E1 := Lib.hid e1
    have t1 : ((l.length : Int) != (m.length : Int)) = true := by rw [bne_iff_ne]; omega
    have t2 : (l.length != m.length) = true := by rw [bne_iff_ne]; exact hln
    clear hF hG ih e1
    go_enter Tryz.func36, Tryz.ntmps36
    go_wp2
    go_ret
    exact ⟨by rw [E1.out]; rfl, Below.refl _ _⟩
theorem sames_any (N : Nat) : SamesOk N := by
  induction N using Nat.strongRecOn with
  | _ N ih => exact fun l m hN hm v u w B hF hG hB => sames_step ih l m hN hm v u w B hF hG hB
end Go.Proofs.YtgiiglcgfbnaoaaGreatDoor
namespace Go.Proofs.YtgiiglcgfbnaoaaGreatDoor
open Go.RowKit Go.Bd
theorem each_any (N : Nat) : EachOk N := by
  induction N using Nat.strongRecOn with
  | _ N ih => exact each_step ih
set_option maxRecDepth 100000 in
set_option maxHeartbeats 2000000 in
theorem Each_any (l : List Sp) (hm : manyL l ≤ 100000000) (v : Value) (w : World) (k : Nat) (hF : Forest w (· < w.heap.size) v l) :
    Calls Tryz.prog 22 #[v, .int .u8 (k : Int)] w fun e w' => ∃ A c, e = .returned (.slice A (eachL l k).length c) ∧ Forest w' (· < w'.heap.size) (.slice A (eachL l k).length c) (eachL l k) ∧ Below w.heap.size w w' := by
  obtain ⟨A, c, rfl, hcc⟩ := hF.len
  have hb1 := (Below.refl w.heap.size w).alloc (Nat.le_refl _) (.cells #[.int .u8 (k : Int)] 31)
  have hb2 := hb1.alloc (by simp) (.cells #[.slice none 0 0] 22)
  have hb3 := hb2.alloc (by simp; omega) (.cells #[.func (.func 45) #[] #[.pointer (some ⟨w.heap.size, 0, none⟩), .pointer (some ⟨w.heap.size + 1, 0, none⟩), .pointer (some ⟨w.heap.size + 1 + 1, 0, none⟩)]] 77)
  have hst : EachSt (((w.alloc (.cells #[.int .u8 (k : Int)] 31)).alloc (.cells #[.slice none 0 0] 22)).alloc (.cells #[.func (.func 45) #[] #[.pointer (some ⟨w.heap.size, 0, none⟩), .pointer (some ⟨w.heap.size + 1, 0, none⟩), .pointer (some ⟨w.heap.size + 1 + 1, 0, none⟩)]] 77)) w.heap.size w.heap.size (w.heap.size + 1) (w.heap.size + 1 + 1) k [] (.slice none 0 0) := by
    refine ⟨((Holds.new w _ _).alloc _).alloc _, ?_, ?_, ⟨fun _ => False, SpanRow.nil _ _ _ _, fun _ h => h.elim⟩, by omega⟩
    · have h := (Holds.new (w.alloc (.cells #[.int .u8 (k : Int)] 31)) 22 #[.slice none 0 0]).alloc (.cells #[.func (.func 45) #[] #[.pointer (some ⟨w.heap.size, 0, none⟩), .pointer (some ⟨w.heap.size + 1, 0, none⟩), .pointer (some ⟨w.heap.size + 1 + 1, 0, none⟩)]] 77)
      simp only [World.size_alloc] at h
      exact h
    · have h := Holds.new ((w.alloc (.cells #[.int .u8 (k : Int)] 31)).alloc (.cells #[.slice none 0 0] 22)) 77 #[.func (.func 45) #[] #[.pointer (some ⟨w.heap.size, 0, none⟩), .pointer (some ⟨w.heap.size + 1, 0, none⟩), .pointer (some ⟨w.heap.size + 1 + 1, 0, none⟩)]]
      simp only [World.size_alloc] at h
      exact h
  have ce := each_any _ l (Nat.le_refl _) (by omega) _ _ w.heap.size w.heap.size (w.heap.size + 1) (w.heap.size + 1 + 1) k [] (.slice none 0 0) (hF.under hb3 (fun _ h => h)) hst (by simp; omega)
  have HB3 := Lib.hid hb3
  obtain ⟨n, hn⟩ : ∃ n, l.length = n := ⟨_, rfl⟩
  obtain ⟨el, hel⟩ : ∃ el, eachL l k = el := ⟨_, rfl⟩
  simp only [hn, hel, List.nil_append] at ce ⊢
  clear hF hb1 hb2 hb3 hst hn hel hcc
  go_enter Tryz.func22, Tryz.ntmps22
  go_wp2_with fail
  refine ce.mono ?_
  clear ce
  rintro e w2 ⟨rfl, vo, hst2, hb2⟩
  obtain ⟨F, hsr, hFz⟩ := hst2.row
  obtain ⟨A2, c2, rfl, hc2⟩ := hsr.form
  have k0 := hst2.ho.cell 0
  have HFO : Hid (Forest w2 (· < w2.heap.size) (.slice A2 el.length c2) el) := hsr.forest (fun b hb => (hFz b hb).1) (fun b hb => (hsr.lt b hb).2)
  have HB2 := Lib.hid (HB3.out.trans hb2)
  clear hst2 hsr hFz hb2
  generalize hnl : el.length = nl at k0 HFO hc2
  have HNL := Lib.hid hnl
  clear hnl
  go_wp2
  go_ret
  exact ⟨A2, c2, by rw [HNL.out]; rfl, by rw [HNL.out]; exact HFO.out, HB2.out⟩
theorem results_cell1 {fn : Func} {p : Tmp} {ty : TypeId} (h : fn.results = #[.cell p ty]) (tmps : Array Value) (P : Program) (w : World) :
    (results fn tmps).run P w = ((asAddr (tmps.getD p undef)).run P w).andThen fun a w₁ => (loadVar ty a).run P w₁ := by
  simp only [results, h]
  simp [Sem.run_bind, Result.andThen]
theorem results_row {P : Program} {fn : Func} {p : Tmp} {ty : TypeId} (h : fn.results = #[.cell p ty]) (tmps : Array Value) (w : World) (g : Nat) (t : TypeId) (cs : Array Value) (fr : Nat × Nat) (d : TypeDesc)
    (hp : tmps.getD p undef = .pointer (some ⟨g, 0, none⟩)) (hg : w.heap[g]? = some (.cells cs t fr))
    (hu : P.underlying ty = some d) (hd : (match d with | .struct _ | .array _ _ => true | _ => false) = true) (hi : (P.info? ty).map (·.size) = some cs.size) :
    (results fn tmps).run P w = .ok (.agg cs) w := by
  rw [results_cell1 h, hp]
  simp [asAddr, run_loadVar_row w g t ty cs fr d hg hu hd hi, Result.andThen]
/-- a text asf a span -/
theorem text_any (s : ByteArray) (w : World) : Calls Tryz.prog 18 #[.string s] w fun e w' => e = .returned (.agg #[.int .u8 0, .string s, .string ⟨#[]⟩, .string ⟨#[]⟩, .slice none 0 0]) ∧ Below w.heap.size w w' := by
  go_enter Tryz.func18, Tryz.ntmps18
  go_wp2
  (try simp only [Exit.inBlock, Exit.then])
  refine bodyPost_ret (results_row rfl _ _ w.heap.size _ _ _ _ rfl (heap_alloc_new w _) Tryz.underlying33 rfl span_size) rfl ?_
  exact ⟨rfl, (Below.refl _ _).alloc (Nat.le_refl _) _⟩
set_option maxRecDepth 100000 in
set_option maxHeartbeats 2000000 in
/-- has a text these spans, without faults? -/
theorem is_any (s : ByteArray) (l : List Sp) (hs : s.size ≤ 100000) (hf : faultsOf s.data.toList = []) (he : spansOf s.data.toList = l) (v : Value) (w : World) (m : Int) (hF : Forest w (· < w.heap.size) v l) (hc : w.cell? ⟨0, 0, none⟩ = some (.int .i64 m)) :
    Calls Tryz.prog 17 #[.string s, v] w fun e w' => e = .returned (.bool true) ∧ Below w.heap.size w w' := by
  have hm : manyL l ≤ 100000 := by
    have := many_spans s.data.toList
    rw [he] at this
    have h2 : s.data.toList.length = s.size := by simp
    omega
  obtain ⟨A, c, rfl, hcc⟩ := hF.len
  have cp := parseSpans_any s w hs m hc
  rw [hf, he] at cp
  have HSM : Hid (sameL l l = true) := (sameL_eq l l).2 rfl
  have HF := Lib.hid hF
  obtain ⟨n, hn⟩ : ∃ n, l.length = n := ⟨_, rfl⟩
  have HN := Lib.hid hn
  simp only [hn] at HF ⊢
  clear hF hn hf he hc
  go_enter Tryz.func17, Tryz.ntmps17
  go_wp2_with fail
  refine cp.mono ?_
  clear cp
  rintro e w2 ⟨sv, fv, rfl, hb2, hf2, hr2⟩
  obtain ⟨Af, cf, rfl, _⟩ := own_slice2 hr2
  have hs2 := hb2.size
  have csm := sames_any (manyL l) l l (Nat.le_refl _) (by omega) sv (.slice A n c) w2 w2.heap.size hf2 ((HF.out.under hb2 (fun _ h => h)).keep (fun b hb => by omega) (fun _ _ _ h => h)) (Nat.le_refl _)
  rw [HSM.out] at csm
  obtain ⟨A2, c2, rfl, _⟩ := hf2.len
  rw [HN.out] at csm ⊢
  have HB2 := Lib.hid hb2
  clear hb2 hf2 hr2
  simp only [List.length_nil]
  go_wp2_with fail
  refine csm.mono ?_
  clear csm
  rintro e w3 ⟨rfl, hb3⟩
  have HB3 := Lib.hid (HB2.out.trans (hb3.mono (by omega)))
  clear hb3
  go_wp2
  go_ret
  exact ⟨rfl, HB3.out⟩
set_option maxRecDepth 100000 in
set_option maxHeartbeats 2000000 in
/-- is a text itself, with that one fault? -/
theorem wrong_any (s : ByteArray) (f : Nat) (hs : s.size ≤ 100000) (hf : faultsOf s.data.toList = [f]) (he : spansOf s.data.toList = [txt s.data.toList]) (w : World) (m : Int) (hc : w.cell? ⟨0, 0, none⟩ = some (.int .i64 m)) :
    Calls Tryz.prog 35 #[.string s, .int .i64 (f : Int)] w fun e w' => e = .returned (.bool true) ∧ Below w.heap.size w w' := by
  have cp := parseSpans_any s w hs m hc
  rw [hf, he] at cp
  clear hf he hc
  go_enter Tryz.func35, Tryz.ntmps35
  go_wp2_with fail
  refine cp.mono ?_
  clear cp
  rintro e w2 ⟨sv, fv, rfl, hb2, hf2, hr2⟩
  obtain ⟨Af, cf, rfl, hcf⟩ := own_slice2 hr2
  obtain ⟨A2, c2, rfl, hc2⟩ := hf2.len
  obtain ⟨b1, off, kA, kc, rfl, hb1, _, p0, p1, _, _, _⟩ := hf2.at (j := 0) (x := txt s.data.toList) rfl
  rcases hr2.2 with ⟨_, h0⟩ | ⟨g, cap, cur, hv, hg, hh, hc, hm', hs', ht⟩
  · simp at h0
  · injection hv with e1 e2 e3
    subst e1
    have q0 : w2.cell? ⟨g, 0, none⟩ = some (.int .i64 (f : Int)) := by
      rw [Holds.cell hh 0, ← Array.getElem?_toList]
      have h1 : (cur.toList.take 1)[0]? = some (.int .i64 (f : Int)) := by
        have : ([f].length * 1) = 1 := rfl
        rw [this] at ht
        rw [ht]; rfl
      rw [List.getElem?_take_of_lt (by omega)] at h1
      exact h1
    have p0' : w2.cell? ⟨b1, off, none⟩ = some (.int .u8 0) := by simpa [txt] using p0
    have p1' : w2.cell? ⟨b1, off + 1, none⟩ = some (.string s) := by
      have h := p1
      simp only [txt, Nat.zero_mul, Nat.add_zero] at h
      rw [h]
    have HB2 := Lib.hid hb2
    clear hb2 hf2 hr2 p0 p1 hh ht
    simp only [List.length_cons, List.length_nil] at hcf hc2 ⊢
    go_wp2
    go_ret
    exact ⟨rfl, HB2.out⟩
end Go.Proofs.YtgiiglcgfbnaoaaGreatDoor
namespace Go.Bd
open Go.RowKit
def spI : Sp := ⟨2, [], [], [], [txt [99]]⟩
def spBold : Sp := ⟨1, [], [], [], [txt [98, 32], spI]⟩
def spA : Sp := ⟨1, [], [], [], [txt [97]]⟩
def spE : Sp := ⟨1, [], [], [], []⟩
theorem rowCells_at : ∀ {l : List Sp} {kvs : List Value} {j : Nat} {x : Sp} {kv : Value} (i : Nat), i < 5 → l[j]? = some x → kvs[j]? = some kv → (rowCells l kvs)[j * 5 + i]? = (spCells x kv)[i]?
  | [], _, _, _, _, _, _, h, _ => by simp at h
  | _ :: _, [], _, _, _, _, _, _, h => by simp at h
  | y :: l, kw :: kvs, 0, x, kv, i, hi, h1, h2 => by
    simp only [List.getElem?_cons_zero, Option.some.injEq] at h1 h2
    subst h1; subst h2
    rw [rowCells, Nat.zero_mul, Nat.zero_add, List.getElem?_append_left (by simpa [spCells] using hi)]
  | y :: l, kw :: kvs, j + 1, x, kv, i, hi, h1, h2 => by
    rw [rowCells, List.getElem?_append_right (by simp [spCells]; omega)]
    rw [show (j + 1) * 5 + i - (spCells y kw).length = j * 5 + i by simp [spCells]; omega]
    exact rowCells_at i hi (by simpa using h1) (by simpa using h2)
theorem forest_lit {w : World} {F : Nat → Prop} {g : Nat} {t : TypeId} {l : List Sp} {kvs : List Value} (h : Holds w g t (rowCells l kvs).toArray) (hkl : kvs.length = l.length) (hg : F g) (hk : ∀ (j : Nat) x kv, l[j]? = some x → kvs[j]? = some kv → Forest w F kv x.kids) :
    Forest w F (.slice (some ⟨g, 0, none⟩) l.length l.length) l := by
  refine .mk _ _ l kvs hkl (Nat.le_refl _) (fun _ => ⟨g, 0, rfl, hg, fun j x kv h1 h2 i u hu => ?_⟩) hk
  have hi : i < 5 := by have := (List.getElem?_eq_some_iff.1 hu).1; simpa [spCells] using this
  rw [Nat.zero_add, h.cell]
  rw [List.getElem?_toArray, rowCells_at i hi h1 h2]
  exact hu
theorem forest_one {w : World} {F : Nat → Prop} {g : Nat} {t : TypeId} {x : Sp} {kv : Value} (h : Holds w g t (spCells x kv).toArray) (hg : F g) (hk : Forest w F kv x.kids) : Forest w F (.slice (some ⟨g, 0, none⟩) 1 1) [x] :=
  forest_lit (l := [x]) (kvs := [kv]) (by simpa [rowCells] using h) rfl hg (fun j y kw h1 h2 => by
    match j with
    | 0 => simp at h1 h2; subst h1; subst h2; exact hk
    | j + 1 => simp at h1)
theorem forest_txt {w : World} {F : Nat → Prop} {g : Nat} {t : TypeId} {s : Bs} (h : Holds w g t #[.int .u8 0, .string ⟨s.toArray⟩, .string ⟨#[]⟩, .string ⟨#[]⟩, .slice none 0 0]) (hg : F g) : Forest w F (.slice (some ⟨g, 0, none⟩) 1 1) [txt s] :=
  forest_one (x := txt s) (kv := .slice none 0 0) h hg (Forest.nil _ _)
theorem alive_1 : textOf [spA] = some [42, 97, 42] := by
  have h1 : putF [spA] = ([42, 97, 42], true) := by rfl
  rw [textOf_F, h1, if_pos]
  exact ⟨rfl, by decide +kernel, by decide +kernel⟩
theorem alive_2 : textOf [spE] = none := by
  have h1 : putF [spE] = ([42, 42], true) := by rfl
  rw [textOf_F, h1, if_neg]
  rintro ⟨_, _, h⟩
  exact absurd h (by decide +kernel)
theorem alive_3 : faultsOf [97, 32, 42, 98, 32, 95, 99, 95, 42, 32, 100] = [] ∧ spansOf [97, 32, 42, 98, 32, 95, 99, 95, 42, 32, 100] = [txt [97, 32], spBold, txt [32, 100]] := ⟨by decide +kernel, (sameL_eq _ _).1 (by decide +kernel)⟩
theorem alive_4 : faultsOf [50, 42, 51, 42, 52] = [] ∧ spansOf [50, 42, 51, 42, 52] = [txt [50, 42, 51, 42, 52]] := ⟨by decide +kernel, (sameL_eq _ _).1 (by decide +kernel)⟩
theorem alive_5 : faultsOf [42, 97] = [7] ∧ spansOf [42, 97] = [txt [42, 97]] := ⟨by decide +kernel, (sameL_eq _ _).1 (by decide +kernel)⟩
theorem alive_6 : faultsOf [60, 60, 49, 62, 62] = [10] ∧ spansOf [60, 60, 49, 62, 62] = [txt [60, 60, 49, 62, 62]] := ⟨by decide +kernel, (sameL_eq _ _).1 (by decide +kernel)⟩
theorem alive_7 : faultsOf [40, 40, 32, 41, 41] = [8] ∧ spansOf [40, 40, 32, 41, 41] = [txt [40, 40, 32, 41, 41]] := ⟨by decide +kernel, (sameL_eq _ _).1 (by decide +kernel)⟩
theorem alive_8 : faultsOf [92, 42, 97, 92, 42] = [] ∧ spansOf [92, 42, 97, 92, 42] = [txt [42, 97, 42]] := ⟨by decide +kernel, (sameL_eq _ _).1 (by decide +kernel)⟩
theorem alive_9 : faultsOf [97, 93] = [] ∧ spansOf [97, 93] = [txt [97, 93]] := ⟨by decide +kernel, (sameL_eq _ _).1 (by decide +kernel)⟩
theorem alive_10 : sayL [txt [97, 32], spBold] = [97, 32, 98, 32, 99] := by decide +kernel
theorem alive_11 : (eachL [spBold] 2).length = 1 := by decide +kernel
end Go.Bd
namespace Go.Proofs.YtgiiglcgfbnaoaaGreatDoor
open Go.RowKit Go.Bd
/-- what is kept while the answers are asked -/
structure AlSt (w : World) (m : Int) (gB gK : Nat) (W : World) : Prop where
  B : Below w.heap.size w W
  C : W.cell? ⟨0, 0, none⟩ = some (.int .i64 m)
  H : Holds W gB 33 #[.int .u8 1, .string ⟨#[]⟩, .string ⟨#[]⟩, .string ⟨#[]⟩, .slice (some ⟨gK, 0, none⟩) 2 2]
  K : Forest W (· < W.heap.size) (.slice (some ⟨gK, 0, none⟩) 2 2) spBold.kids
theorem AlSt.later {w W W' : World} {m : Int} {gB gK : Nat} (h : AlSt w m gB gK W) (hb : Below W.heap.size W W') : AlSt w m gB gK W' :=
  ⟨h.B.trans (hb.mono h.B.size), (hb.cell (p := ⟨0, 0, none⟩) (World.block_lt_of_cell? W _ h.C)).trans h.C, holdsUnder h.H hb, (h.K.under hb (fun _ h => h)).keep (fun b hb' => Nat.lt_of_lt_of_le hb' hb.size) (fun _ _ _ h => h)⟩
theorem AlSt.alloc {w W : World} {m : Int} {gB gK : Nat} (h : AlSt w m gB gK W) (o : Obj) : AlSt w m gB gK (W.alloc o) := h.later ((Below.refl _ _).alloc (Nat.le_refl _) _)
theorem AlSt.drew {w W : World} {m : Int} {gB gK : Nat} (h : AlSt w m gB gK W) : AlSt w m gB gK W.drew := ⟨h.B.drew, h.C, h.H, h.K.keep (fun _ h => h) (fun _ _ _ h => h)⟩
theorem forest_new_txt (W : World) (s : Bs) : Forest (W.alloc (.cells #[.int .u8 0, .string ⟨s.toArray⟩, .string ⟨#[]⟩, .string ⟨#[]⟩, .slice none 0 0] 33)) (· < (W.alloc (.cells #[.int .u8 0, .string ⟨s.toArray⟩, .string ⟨#[]⟩, .string ⟨#[]⟩, .slice none 0 0] 33)).heap.size) (.slice (some ⟨W.heap.size, 0, none⟩) 1 1) [txt s] :=
  forest_txt (Holds.new W _ _) (by simp)
theorem many_txts (s : Bs) : manyL [txt s] ≤ 100000 := by simp [manyL, many1, txt]
theorem str_list (s : Bs) : (ByteArray.mk s.toArray).data.toList = s := rfl
set_option maxRecDepth 100000 in
set_option maxHeartbeats 8000000 in
theorem alive_any (w : World) (m : Int) (hc : w.cell? ⟨0, 0, none⟩ = some (.int .i64 m)) :
    Calls Tryz.prog 16 #[] w fun e w' => e = .returned (.bool true) ∧ Below w.heap.size w w' := by
  have hB : 0 < w.heap.size := World.block_lt_of_cell? w _ hc
  have HC := Lib.hid hc
  clear hc
  go_enter Tryz.func16, Tryz.ntmps16
  go_wp2_with fail
  refine (text_any ⟨#[98, 32]⟩ w).mono ?_
  rintro e w1 ⟨rfl, hb1⟩
  have HB1 := Lib.hid hb1
  have hs1 := hb1.size
  clear hb1
  go_wp2_with fail
  refine (text_any ⟨#[99]⟩ w1).mono ?_
  rintro e w2 ⟨rfl, hb2⟩
  have HB2 := Lib.hid (HB1.out.trans (hb2.mono hs1))
  have hs2 := hb2.size
  clear hb2
  obtain ⟨w3, hw3⟩ : ∃ w3, ((w2.alloc (.cells #[.int .u8 0, .string ⟨#[99]⟩, .string ⟨#[]⟩, .string ⟨#[]⟩, .slice none 0 0] 33)).alloc (.cells #[.int .u8 0, .string ⟨#[98, 32]⟩, .string ⟨#[]⟩, .string ⟨#[]⟩, .slice none 0 0, .int .u8 2, .string ⟨#[]⟩, .string ⟨#[]⟩, .string ⟨#[]⟩, .slice (some ⟨w2.heap.size, 0, none⟩) 1 1] 33)).alloc (.cells #[.int .u8 1, .string ⟨#[]⟩, .string ⟨#[]⟩, .string ⟨#[]⟩, .slice (some ⟨w2.heap.size + 1, 0, none⟩) 2 2] 33) = w3 := ⟨_, rfl⟩
  have hA : AlSt w m (w2.heap.size + 1 + 1) (w2.heap.size + 1) w3 := by
    have hb3 : Below w.heap.size w w3 := by
      rw [← hw3]
      exact ((HB2.out.alloc (by omega) _).alloc (by simp; omega) _).alloc (by simp; omega) _
    refine ⟨hb3, (hb3.cell (p := ⟨0, 0, none⟩) hB).trans HC.out, ?_, ?_⟩
    · rw [← hw3]
      have h := Holds.new ((w2.alloc (.cells #[.int .u8 0, .string ⟨#[99]⟩, .string ⟨#[]⟩, .string ⟨#[]⟩, .slice none 0 0] 33)).alloc (.cells #[.int .u8 0, .string ⟨#[98, 32]⟩, .string ⟨#[]⟩, .string ⟨#[]⟩, .slice none 0 0, .int .u8 2, .string ⟨#[]⟩, .string ⟨#[]⟩, .string ⟨#[]⟩, .slice (some ⟨w2.heap.size, 0, none⟩) 1 1] 33)) 33 #[.int .u8 1, .string ⟨#[]⟩, .string ⟨#[]⟩, .string ⟨#[]⟩, .slice (some ⟨w2.heap.size + 1, 0, none⟩) 2 2]
      simp only [World.size_alloc] at h
      exact h
    · rw [← hw3]
      have h1 := ((Holds.new w2 33 #[.int .u8 0, .string ⟨#[99]⟩, .string ⟨#[]⟩, .string ⟨#[]⟩, .slice none 0 0]).alloc (.cells #[.int .u8 0, .string ⟨#[98, 32]⟩, .string ⟨#[]⟩, .string ⟨#[]⟩, .slice none 0 0, .int .u8 2, .string ⟨#[]⟩, .string ⟨#[]⟩, .string ⟨#[]⟩, .slice (some ⟨w2.heap.size, 0, none⟩) 1 1] 33)).alloc (.cells #[.int .u8 1, .string ⟨#[]⟩, .string ⟨#[]⟩, .string ⟨#[]⟩, .slice (some ⟨w2.heap.size + 1, 0, none⟩) 2 2] 33)
      have h2 := (Holds.new (w2.alloc (.cells #[.int .u8 0, .string ⟨#[99]⟩, .string ⟨#[]⟩, .string ⟨#[]⟩, .slice none 0 0] 33)) 33 #[.int .u8 0, .string ⟨#[98, 32]⟩, .string ⟨#[]⟩, .string ⟨#[]⟩, .slice none 0 0, .int .u8 2, .string ⟨#[]⟩, .string ⟨#[]⟩, .string ⟨#[]⟩, .slice (some ⟨w2.heap.size, 0, none⟩) 1 1]).alloc (.cells #[.int .u8 1, .string ⟨#[]⟩, .string ⟨#[]⟩, .string ⟨#[]⟩, .slice (some ⟨w2.heap.size + 1, 0, none⟩) 2 2] 33)
      rw [World.size_alloc] at h2
      refine forest_lit (l := [txt [98, 32], spI]) (kvs := [.slice none 0 0, .slice (some ⟨w2.heap.size, 0, none⟩) 1 1]) h2 rfl (by first | (simp; done) | (simp; omega)) (fun j x kv e1 e2 => ?_)
      match j with
      | 0 => simp at e1 e2; subst e1; subst e2; exact Forest.nil _ _
      | 1 => simp at e1 e2; subst e1; subst e2; exact forest_txt h1 (by first | (simp; done) | (simp; omega))
      | j + 2 => simp at e1
  have hgB : w2.heap.size + 1 + 1 < w3.heap.size := hA.H.lt
  go_wp2_with fail
  clear hw3
  refine (text_any ⟨#[97]⟩ w3).mono ?_
  rintro e w4 ⟨rfl, hb4⟩
  replace hA := hA.later hb4
  clear hb4
  have ct : Calls Tryz.prog 13 #[.slice (some ⟨w4.heap.size + 1, 0, none⟩) 1 1] ((w4.alloc (.cells #[.int .u8 0, .string ⟨#[97]⟩, .string ⟨#[]⟩, .string ⟨#[]⟩, .slice none 0 0] 33)).alloc (.cells #[.int .u8 1, .string ⟨#[]⟩, .string ⟨#[]⟩, .string ⟨#[]⟩, .slice (some ⟨w4.heap.size, 0, none⟩) 1 1] 33)) fun e w' => e = .returned (.tuple #[.string ⟨#[42, 97, 42]⟩, .int .i64 0]) ∧ Below ((w4.alloc (.cells #[.int .u8 0, .string ⟨#[97]⟩, .string ⟨#[]⟩, .string ⟨#[]⟩, .slice none 0 0] 33)).alloc (.cells #[.int .u8 1, .string ⟨#[]⟩, .string ⟨#[]⟩, .string ⟨#[]⟩, .slice (some ⟨w4.heap.size, 0, none⟩) 1 1] 33)).heap.size ((w4.alloc (.cells #[.int .u8 0, .string ⟨#[97]⟩, .string ⟨#[]⟩, .string ⟨#[]⟩, .slice none 0 0] 33)).alloc (.cells #[.int .u8 1, .string ⟨#[]⟩, .string ⟨#[]⟩, .string ⟨#[]⟩, .slice (some ⟨w4.heap.size, 0, none⟩) 1 1] 33)) w' := by
    have h1 := (Holds.new w4 33 #[.int .u8 0, .string ⟨#[97]⟩, .string ⟨#[]⟩, .string ⟨#[]⟩, .slice none 0 0]).alloc (.cells #[.int .u8 1, .string ⟨#[]⟩, .string ⟨#[]⟩, .string ⟨#[]⟩, .slice (some ⟨w4.heap.size, 0, none⟩) 1 1] 33)
    have h2 := Holds.new (w4.alloc (.cells #[.int .u8 0, .string ⟨#[97]⟩, .string ⟨#[]⟩, .string ⟨#[]⟩, .slice none 0 0] 33)) 33 #[.int .u8 1, .string ⟨#[]⟩, .string ⟨#[]⟩, .string ⟨#[]⟩, .slice (some ⟨w4.heap.size, 0, none⟩) 1 1]
    rw [World.size_alloc] at h2
    have h := textSpans_any [spA] (by decide) (by decide) _ _ m (forest_one (x := spA) (kv := .slice (some ⟨w4.heap.size, 0, none⟩) 1 1) h2 (by simp) (forest_txt h1 (by simp; omega))) ((hA.alloc _).alloc _).C
    rw [alive_1] at h
    exact h
  go_wp2_with fail
  refine ct.mono ?_
  clear ct
  rintro e w5 ⟨rfl, hb5⟩
  replace hA := ((hA.alloc _).alloc _).later hb5
  clear hb5
  have ct : Calls Tryz.prog 13 #[.slice (some ⟨w5.heap.size, 0, none⟩) 1 1] (w5.alloc (.cells #[.int .u8 1, .string ⟨#[]⟩, .string ⟨#[]⟩, .string ⟨#[]⟩, .slice none 0 0] 33)) fun e w' => e = .returned (.tuple #[.string ⟨#[]⟩, .int .i64 1]) ∧ Below (w5.alloc (.cells #[.int .u8 1, .string ⟨#[]⟩, .string ⟨#[]⟩, .string ⟨#[]⟩, .slice none 0 0] 33)).heap.size (w5.alloc (.cells #[.int .u8 1, .string ⟨#[]⟩, .string ⟨#[]⟩, .string ⟨#[]⟩, .slice none 0 0] 33)) w' := by
    have h2 := Holds.new w5 33 #[.int .u8 1, .string ⟨#[]⟩, .string ⟨#[]⟩, .string ⟨#[]⟩, .slice none 0 0]
    have h := textSpans_any [spE] (by decide) (by decide) _ _ m (forest_one (x := spE) (kv := .slice none 0 0) h2 (by simp) (Forest.nil _ _)) (hA.alloc _).C
    rw [alive_2] at h
    exact h
  go_wp2_with fail
  refine ct.mono ?_
  clear ct
  rintro e w6 ⟨rfl, hb6⟩
  replace hA := (hA.alloc _).later hb6
  clear hb6
  have hgB6 : w2.heap.size + 1 + 1 < w6.heap.size := hA.H.lt
  generalize w2.heap.size + 1 + 1 = gB at hA hgB6 ⊢
  generalize w2.heap.size + 1 = gK at hA ⊢
  go_wp2
  refine wp_region_held_drew (S := (fun w' => w'.cell? ⟨gB, 0, none⟩ = some (.int .u8 1) ∧ w'.cell? ⟨gB, 1, none⟩ = some (.string ⟨#[]⟩) ∧ w'.cell? ⟨gB, 2, none⟩ = some (.string ⟨#[]⟩) ∧ w'.cell? ⟨gB, 3, none⟩ = some (.string ⟨#[]⟩) ∧ w'.cell? ⟨gB, 4, none⟩ = some (.slice (some ⟨gK, 0, none⟩) 2 2))) (by kernel_rfl) ?_ (fun hHeld0 => ?_)
  · (try dsimp only)
    exact cells5 (AlSt.H (by first | with_reducible exact hA | with_reducible exact hA.drew | with_reducible exact hA.alloc _ | with_reducible exact hA.drew.alloc _ | with_reducible exact (hA.alloc _).drew | with_reducible exact (hA.alloc _).alloc _))
  refine wpAnyH_take (i := 0) (v := ?_) rfl (by kernel_rfl) (by kernel_rfl) (by kernel_rfl) (fun _ _ _ h => h) (Or.inl ⟨by kernel_rfl, ?_⟩) (by assumption) ?_
  rotate_left
  · (intro w hSw; (try dsimp only at hSw); go_simp; (first | done | with_reducible rfl))
  (try simp only [Act.put, List.setIfInBounds_toArray, List.set_cons_zero, List.set_cons_succ])
  refine wpAnyH_take (i := 1) (v := ?_) rfl (by kernel_rfl) (by kernel_rfl) (by kernel_rfl) (fun _ _ _ h => h) (Or.inl ⟨by kernel_rfl, ?_⟩) (by assumption) ?_
  rotate_left
  · (intro w hSw; (try dsimp only at hSw); go_simp; (first | done | with_reducible rfl))
  (try simp only [Act.put, List.setIfInBounds_toArray, List.set_cons_zero, List.set_cons_succ])
  refine wpAnyH_take (i := 2) (v := ?_) rfl (by kernel_rfl) (by kernel_rfl) (by kernel_rfl) (fun _ _ _ h => h) (Or.inl ⟨by kernel_rfl, ?_⟩) (by assumption) ?_
  rotate_left
  · (intro w hSw; (try dsimp only at hSw); go_simp; (first | done | with_reducible rfl))
  (try simp only [Act.put, List.setIfInBounds_toArray, List.set_cons_zero, List.set_cons_succ])
  refine wpAnyH_take (i := 3) (v := ?_) rfl (by kernel_rfl) (by kernel_rfl) (by kernel_rfl) (fun _ _ _ h => h) (Or.inl ⟨by kernel_rfl, ?_⟩) (by assumption) ?_
  rotate_left
  · (intro w hSw; (try dsimp only at hSw); go_simp; (first | done | with_reducible rfl))
  (try simp only [Act.put, List.setIfInBounds_toArray, List.set_cons_zero, List.set_cons_succ])
  refine wpAnyH_take (i := 4) (v := ?_) rfl (by kernel_rfl) (by kernel_rfl) (by kernel_rfl) (fun _ _ _ h => h) (Or.inl ⟨by kernel_rfl, ?_⟩) (by assumption) ?_
  rotate_left
  · (intro w hSw; (try dsimp only at hSw); go_simp; (first | done | with_reducible rfl))
  (try simp only [Act.put, List.setIfInBounds_toArray, List.set_cons_zero, List.set_cons_succ])
  refine wpAnyH_take (i := 5) (v := ?_) rfl (by kernel_rfl) (by kernel_rfl) (by kernel_rfl) (fun _ _ _ h => h) (Or.inl ⟨by kernel_rfl, ?_⟩) (by assumption) ?_
  rotate_left
  · (intro w hSw; (try dsimp only at hSw); go_simp; (first | done | with_reducible rfl))
  (try simp only [Act.put, List.setIfInBounds_toArray, List.set_cons_zero, List.set_cons_succ])
  refine wpAnyH_take (i := 6) (v := ?_) rfl (by kernel_rfl) (by kernel_rfl) (by kernel_rfl) (fun _ _ _ h => h) (Or.inl ⟨by kernel_rfl, ?_⟩) (by assumption) ?_
  rotate_left
  · (intro w hSw; (try dsimp only at hSw); go_simp; (first | done | with_reducible rfl))
  (try simp only [Act.put, List.setIfInBounds_toArray, List.set_cons_zero, List.set_cons_succ])
  refine wpAnyH_take (i := 7) (v := ?_) rfl (by kernel_rfl) (by kernel_rfl) (by kernel_rfl) (fun _ _ _ h => h) (Or.inl ⟨by kernel_rfl, ?_⟩) (by assumption) ?_
  rotate_left
  · (intro w hSw; (try dsimp only at hSw); go_simp; (first | done | with_reducible rfl))
  (try simp only [Act.put, List.setIfInBounds_toArray, List.set_cons_zero, List.set_cons_succ])
  refine wpAnyH_take (i := 8) (oi := ⟨some 34, _, _, _, _, _⟩) (v := .bool true) rfl (by kernel_rfl) (by kernel_rfl) (by kernel_rfl) (fun _ _ _ h => h) (Or.inl ⟨by kernel_rfl, ?_⟩) (by assumption) ?_
  · (intro w hSw; kernel_rfl)
  (try simp only [Act.put, List.setIfInBounds_toArray, List.set_cons_zero, List.set_cons_succ])
  refine wpAnyH_take (i := 9) (v := ?_) rfl (by kernel_rfl) (by kernel_rfl) (by kernel_rfl) (fun _ _ _ h => h) (Or.inl ⟨by kernel_rfl, ?_⟩) (by assumption) ?_
  rotate_left
  · (intro w hSw; (try dsimp only at hSw); go_simp; (first | done | with_reducible rfl))
  (try simp only [Act.put, List.setIfInBounds_toArray, List.set_cons_zero, List.set_cons_succ])
  refine wpAnyH_take (i := 10) (v := ?_) rfl (by kernel_rfl) (by kernel_rfl) (by kernel_rfl) (fun _ _ _ h => h) (Or.inl ⟨by kernel_rfl, ?_⟩) (by assumption) ?_
  rotate_left
  · (intro w hSw; (try dsimp only at hSw); go_simp; (first | done | with_reducible rfl))
  (try simp only [Act.put, List.setIfInBounds_toArray, List.set_cons_zero, List.set_cons_succ])
  refine wpAnyH_take (i := 12) (v := ?_) rfl (by kernel_rfl) (by kernel_rfl) (by kernel_rfl) (fun _ _ _ h => h) (Or.inl ⟨by kernel_rfl, ?_⟩) (by assumption) ?_
  rotate_left
  · (intro w hSw; (try dsimp only at hSw); go_simp; (first | done | with_reducible rfl))
  (try simp only [Act.put, List.setIfInBounds_toArray, List.set_cons_zero, List.set_cons_succ])
  refine wpAnyH_ready (rs := [11]) (by kernel_rfl) (by simp) ?_
  refine AllReadyH.cons rfl (fun K hK => ?_) AllReadyH.nil
  go_simp
  refine (text_any ⟨#[97, 32]⟩ _).mono ?_
  rintro e w7 ⟨rfl, hb⟩
  replace hA := AlSt.later (m := m) (gB := gB) (gK := gK) (w := w) (by first | with_reducible exact hA | with_reducible exact hA.drew | with_reducible exact hA.alloc _ | with_reducible exact hA.drew.alloc _ | with_reducible exact (hA.alloc _).drew | with_reducible exact (hA.alloc _).alloc _) hb
  clear hb
  go_wp2_with fail
  refine hK.out _ _ ?_ (fun hHeld1 => ?_)
  · (try dsimp only)
    exact cells5 (AlSt.H (by first | with_reducible exact hA | with_reducible exact hA.drew | with_reducible exact hA.alloc _ | with_reducible exact hA.drew.alloc _ | with_reducible exact (hA.alloc _).drew | with_reducible exact (hA.alloc _).alloc _))
  clear hK K hHeld0
  (try simp only [Act.put, List.setIfInBounds_toArray, List.set_cons_zero, List.set_cons_succ])
  refine wpAnyH_ready (rs := [13]) (by kernel_rfl) (by simp) ?_
  refine AllReadyH.cons rfl (fun K hK => ?_) AllReadyH.nil
  go_simp
  refine (text_any ⟨#[32, 100]⟩ _).mono ?_
  rintro e w8 ⟨rfl, hb⟩
  replace hA := AlSt.later (m := m) (gB := gB) (gK := gK) (w := w) (by first | with_reducible exact hA | with_reducible exact hA.drew | with_reducible exact hA.alloc _ | with_reducible exact hA.drew.alloc _ | with_reducible exact (hA.alloc _).drew | with_reducible exact (hA.alloc _).alloc _) hb
  clear hb
  go_wp2_with fail
  refine hK.out _ _ ?_ (fun hHeld2 => ?_)
  · (try dsimp only)
    exact cells5 (AlSt.H (by first | with_reducible exact hA | with_reducible exact hA.drew | with_reducible exact hA.alloc _ | with_reducible exact hA.drew.alloc _ | with_reducible exact (hA.alloc _).drew | with_reducible exact (hA.alloc _).alloc _))
  clear hK K hHeld1
  (try simp only [Act.put, List.setIfInBounds_toArray, List.set_cons_zero, List.set_cons_succ])
  refine wpAnyH_ready (rs := [14]) (by kernel_rfl) (by simp) ?_
  refine AllReadyH.cons rfl (fun K hK => ?_) AllReadyH.nil
  go_simp
  refine hK.out _ _ ?_ (fun hHeld3 => ?_)
  · (try dsimp only)
    exact cells5 (AlSt.H (by first | with_reducible exact hA | with_reducible exact hA.drew | with_reducible exact hA.alloc _ | with_reducible exact hA.drew.alloc _ | with_reducible exact (hA.alloc _).drew | with_reducible exact (hA.alloc _).alloc _))
  clear hK K hHeld2
  (try simp only [Act.put, List.setIfInBounds_toArray, List.set_cons_zero, List.set_cons_succ])
  refine wpAnyH_ready (rs := [15]) (by kernel_rfl) (by simp) ?_
  refine AllReadyH.cons rfl (fun K hK => ?_) AllReadyH.nil
  go_simp
  refine (is_any ⟨#[97, 32, 42, 98, 32, 95, 99, 95, 42, 32, 100]⟩ [txt [97, 32], spBold, txt [32, 100]] (by decide) alive_3.1 alive_3.2 _ _ m (forest_lit (l := [txt [97, 32], spBold, txt [32, 100]]) (kvs := [.slice none 0 0, .slice (some ⟨gK, 0, none⟩) 2 2, .slice none 0 0]) (Holds.new _ _ _) rfl (by simp) (fun j x kv e1 e2 => by
    match j with
    | 0 => simp at e1 e2; subst e1; subst e2; exact Forest.nil _ _
    | 1 => simp at e1 e2; subst e1; subst e2; exact (hA.alloc _).K
    | 2 => simp at e1 e2; subst e1; subst e2; exact Forest.nil _ _
    | j + 3 => simp at e1)) (AlSt.C (m := m) (gB := gB) (gK := gK) (w := w) (by first | with_reducible exact hA | with_reducible exact hA.drew | with_reducible exact hA.alloc _ | with_reducible exact hA.drew.alloc _ | with_reducible exact (hA.alloc _).drew | with_reducible exact (hA.alloc _).alloc _))).mono ?_
  rintro e w9 ⟨rfl, hb⟩
  replace hA := AlSt.later (m := m) (gB := gB) (gK := gK) (w := w) (by first | with_reducible exact hA | with_reducible exact hA.drew | with_reducible exact hA.alloc _ | with_reducible exact hA.drew.alloc _ | with_reducible exact (hA.alloc _).drew | with_reducible exact (hA.alloc _).alloc _) hb
  clear hb
  go_wp2_with fail
  refine hK.out _ _ ?_ (fun hHeld4 => ?_)
  · (try dsimp only)
    exact cells5 (AlSt.H (by first | with_reducible exact hA | with_reducible exact hA.drew | with_reducible exact hA.alloc _ | with_reducible exact hA.drew.alloc _ | with_reducible exact (hA.alloc _).drew | with_reducible exact (hA.alloc _).alloc _))
  clear hK K hHeld3
  (try simp only [Act.put, List.setIfInBounds_toArray, List.set_cons_zero, List.set_cons_succ])
  refine wpAnyH_take (i := 16) (v := ?_) rfl (by kernel_rfl) (by kernel_rfl) (by kernel_rfl) (fun _ _ _ h => h) (Or.inl ⟨by kernel_rfl, ?_⟩) (by assumption) ?_
  rotate_left
  · (intro w hSw; (try dsimp only at hSw); go_simp; (first | done | with_reducible rfl))
  (try simp only [Act.put, List.setIfInBounds_toArray, List.set_cons_zero, List.set_cons_succ])
  refine wpAnyH_take (i := 17) (v := ?_) rfl (by kernel_rfl) (by kernel_rfl) (by kernel_rfl) (fun _ _ _ h => h) (Or.inl ⟨by kernel_rfl, ?_⟩) (by assumption) ?_
  rotate_left
  · (intro w hSw; (try dsimp only at hSw); go_simp; (first | done | with_reducible rfl))
  (try simp only [Act.put, List.setIfInBounds_toArray, List.set_cons_zero, List.set_cons_succ])
  refine wpAnyH_ready (rs := [18]) (by kernel_rfl) (by simp) ?_
  refine AllReadyH.cons rfl (fun K hK => ?_) AllReadyH.nil
  go_simp
  refine (text_any ⟨#[50, 42, 51, 42, 52]⟩ _).mono ?_
  rintro e w10 ⟨rfl, hb⟩
  replace hA := AlSt.later (m := m) (gB := gB) (gK := gK) (w := w) (by first | with_reducible exact hA | with_reducible exact hA.drew | with_reducible exact hA.alloc _ | with_reducible exact hA.drew.alloc _ | with_reducible exact (hA.alloc _).drew | with_reducible exact (hA.alloc _).alloc _) hb
  clear hb
  go_wp2_with fail
  refine hK.out _ _ ?_ (fun hHeld5 => ?_)
  · (try dsimp only)
    exact cells5 (AlSt.H (by first | with_reducible exact hA | with_reducible exact hA.drew | with_reducible exact hA.alloc _ | with_reducible exact hA.drew.alloc _ | with_reducible exact (hA.alloc _).drew | with_reducible exact (hA.alloc _).alloc _))
  clear hK K hHeld4
  (try simp only [Act.put, List.setIfInBounds_toArray, List.set_cons_zero, List.set_cons_succ])
  refine wpAnyH_ready (rs := [19]) (by kernel_rfl) (by simp) ?_
  refine AllReadyH.cons rfl (fun K hK => ?_) AllReadyH.nil
  go_simp
  refine hK.out _ _ ?_ (fun hHeld6 => ?_)
  · (try dsimp only)
    exact cells5 (AlSt.H (by first | with_reducible exact hA | with_reducible exact hA.drew | with_reducible exact hA.alloc _ | with_reducible exact hA.drew.alloc _ | with_reducible exact (hA.alloc _).drew | with_reducible exact (hA.alloc _).alloc _))
  clear hK K hHeld5
  (try simp only [Act.put, List.setIfInBounds_toArray, List.set_cons_zero, List.set_cons_succ])
  refine wpAnyH_ready (rs := [20]) (by kernel_rfl) (by simp) ?_
  refine AllReadyH.cons rfl (fun K hK => ?_) AllReadyH.nil
  go_simp
  refine (is_any ⟨#[50, 42, 51, 42, 52]⟩ [txt [50, 42, 51, 42, 52]] (by decide) alive_4.1 alive_4.2 _ _ m (forest_new_txt _ [50, 42, 51, 42, 52]) (AlSt.C (m := m) (gB := gB) (gK := gK) (w := w) (by first | with_reducible exact hA | with_reducible exact hA.drew | with_reducible exact hA.alloc _ | with_reducible exact hA.drew.alloc _ | with_reducible exact (hA.alloc _).drew | with_reducible exact (hA.alloc _).alloc _))).mono ?_
  rintro e w11 ⟨rfl, hb⟩
  replace hA := AlSt.later (m := m) (gB := gB) (gK := gK) (w := w) (by first | with_reducible exact hA | with_reducible exact hA.drew | with_reducible exact hA.alloc _ | with_reducible exact hA.drew.alloc _ | with_reducible exact (hA.alloc _).drew | with_reducible exact (hA.alloc _).alloc _) hb
  clear hb
  go_wp2_with fail
  refine hK.out _ _ ?_ (fun hHeld7 => ?_)
  · (try dsimp only)
    exact cells5 (AlSt.H (by first | with_reducible exact hA | with_reducible exact hA.drew | with_reducible exact hA.alloc _ | with_reducible exact hA.drew.alloc _ | with_reducible exact (hA.alloc _).drew | with_reducible exact (hA.alloc _).alloc _))
  clear hK K hHeld6
  (try simp only [Act.put, List.setIfInBounds_toArray, List.set_cons_zero, List.set_cons_succ])
  refine wpAnyH_take (i := 21) (v := ?_) rfl (by kernel_rfl) (by kernel_rfl) (by kernel_rfl) (fun _ _ _ h => h) (Or.inl ⟨by kernel_rfl, ?_⟩) (by assumption) ?_
  rotate_left
  · (intro w hSw; (try dsimp only at hSw); go_simp; (first | done | with_reducible rfl))
  (try simp only [Act.put, List.setIfInBounds_toArray, List.set_cons_zero, List.set_cons_succ])
  refine wpAnyH_take (i := 22) (v := ?_) rfl (by kernel_rfl) (by kernel_rfl) (by kernel_rfl) (fun _ _ _ h => h) (Or.inl ⟨by kernel_rfl, ?_⟩) (by assumption) ?_
  rotate_left
  · (intro w hSw; (try dsimp only at hSw); go_simp; (first | done | with_reducible rfl))
  (try simp only [Act.put, List.setIfInBounds_toArray, List.set_cons_zero, List.set_cons_succ])
  refine wpAnyH_ready (rs := [23]) (by kernel_rfl) (by simp) ?_
  refine AllReadyH.cons rfl (fun K hK => ?_) AllReadyH.nil
  go_simp
  refine (wrong_any ⟨#[42, 97]⟩ 7 (by decide) alive_5.1 alive_5.2 _ m (AlSt.C (m := m) (gB := gB) (gK := gK) (w := w) (by first | with_reducible exact hA | with_reducible exact hA.drew | with_reducible exact hA.alloc _ | with_reducible exact hA.drew.alloc _ | with_reducible exact (hA.alloc _).drew | with_reducible exact (hA.alloc _).alloc _))).mono ?_
  rintro e w12 ⟨rfl, hb⟩
  replace hA := AlSt.later (m := m) (gB := gB) (gK := gK) (w := w) (by first | with_reducible exact hA | with_reducible exact hA.drew | with_reducible exact hA.alloc _ | with_reducible exact hA.drew.alloc _ | with_reducible exact (hA.alloc _).drew | with_reducible exact (hA.alloc _).alloc _) hb
  clear hb
  go_wp2_with fail
  refine hK.out _ _ ?_ (fun hHeld8 => ?_)
  · (try dsimp only)
    exact cells5 (AlSt.H (by first | with_reducible exact hA | with_reducible exact hA.drew | with_reducible exact hA.alloc _ | with_reducible exact hA.drew.alloc _ | with_reducible exact (hA.alloc _).drew | with_reducible exact (hA.alloc _).alloc _))
  clear hK K hHeld7
  (try simp only [Act.put, List.setIfInBounds_toArray, List.set_cons_zero, List.set_cons_succ])
  refine wpAnyH_take (i := 24) (v := ?_) rfl (by kernel_rfl) (by kernel_rfl) (by kernel_rfl) (fun _ _ _ h => h) (Or.inl ⟨by kernel_rfl, ?_⟩) (by assumption) ?_
  rotate_left
  · (intro w hSw; (try dsimp only at hSw); go_simp; (first | done | with_reducible rfl))
  (try simp only [Act.put, List.setIfInBounds_toArray, List.set_cons_zero, List.set_cons_succ])
  refine wpAnyH_take (i := 25) (v := ?_) rfl (by kernel_rfl) (by kernel_rfl) (by kernel_rfl) (fun _ _ _ h => h) (Or.inl ⟨by kernel_rfl, ?_⟩) (by assumption) ?_
  rotate_left
  · (intro w hSw; (try dsimp only at hSw); go_simp; (first | done | with_reducible rfl))
  (try simp only [Act.put, List.setIfInBounds_toArray, List.set_cons_zero, List.set_cons_succ])
  refine wpAnyH_ready (rs := [26]) (by kernel_rfl) (by simp) ?_
  refine AllReadyH.cons rfl (fun K hK => ?_) AllReadyH.nil
  go_simp
  refine (wrong_any ⟨#[60, 60, 49, 62, 62]⟩ 10 (by decide) alive_6.1 alive_6.2 _ m (AlSt.C (m := m) (gB := gB) (gK := gK) (w := w) (by first | with_reducible exact hA | with_reducible exact hA.drew | with_reducible exact hA.alloc _ | with_reducible exact hA.drew.alloc _ | with_reducible exact (hA.alloc _).drew | with_reducible exact (hA.alloc _).alloc _))).mono ?_
  rintro e w13 ⟨rfl, hb⟩
  replace hA := AlSt.later (m := m) (gB := gB) (gK := gK) (w := w) (by first | with_reducible exact hA | with_reducible exact hA.drew | with_reducible exact hA.alloc _ | with_reducible exact hA.drew.alloc _ | with_reducible exact (hA.alloc _).drew | with_reducible exact (hA.alloc _).alloc _) hb
  clear hb
  go_wp2_with fail
  refine hK.out _ _ ?_ (fun hHeld9 => ?_)
  · (try dsimp only)
    exact cells5 (AlSt.H (by first | with_reducible exact hA | with_reducible exact hA.drew | with_reducible exact hA.alloc _ | with_reducible exact hA.drew.alloc _ | with_reducible exact (hA.alloc _).drew | with_reducible exact (hA.alloc _).alloc _))
  clear hK K hHeld8
  (try simp only [Act.put, List.setIfInBounds_toArray, List.set_cons_zero, List.set_cons_succ])
  refine wpAnyH_take (i := 27) (v := ?_) rfl (by kernel_rfl) (by kernel_rfl) (by kernel_rfl) (fun _ _ _ h => h) (Or.inl ⟨by kernel_rfl, ?_⟩) (by assumption) ?_
  rotate_left
  · (intro w hSw; (try dsimp only at hSw); go_simp; (first | done | with_reducible rfl))
  (try simp only [Act.put, List.setIfInBounds_toArray, List.set_cons_zero, List.set_cons_succ])
  refine wpAnyH_take (i := 28) (v := ?_) rfl (by kernel_rfl) (by kernel_rfl) (by kernel_rfl) (fun _ _ _ h => h) (Or.inl ⟨by kernel_rfl, ?_⟩) (by assumption) ?_
  rotate_left
  · (intro w hSw; (try dsimp only at hSw); go_simp; (first | done | with_reducible rfl))
  (try simp only [Act.put, List.setIfInBounds_toArray, List.set_cons_zero, List.set_cons_succ])
  refine wpAnyH_ready (rs := [29]) (by kernel_rfl) (by simp) ?_
  refine AllReadyH.cons rfl (fun K hK => ?_) AllReadyH.nil
  go_simp
  refine (wrong_any ⟨#[40, 40, 32, 41, 41]⟩ 8 (by decide) alive_7.1 alive_7.2 _ m (AlSt.C (m := m) (gB := gB) (gK := gK) (w := w) (by first | with_reducible exact hA | with_reducible exact hA.drew | with_reducible exact hA.alloc _ | with_reducible exact hA.drew.alloc _ | with_reducible exact (hA.alloc _).drew | with_reducible exact (hA.alloc _).alloc _))).mono ?_
  rintro e w14 ⟨rfl, hb⟩
  replace hA := AlSt.later (m := m) (gB := gB) (gK := gK) (w := w) (by first | with_reducible exact hA | with_reducible exact hA.drew | with_reducible exact hA.alloc _ | with_reducible exact hA.drew.alloc _ | with_reducible exact (hA.alloc _).drew | with_reducible exact (hA.alloc _).alloc _) hb
  clear hb
  go_wp2_with fail
  refine hK.out _ _ ?_ (fun hHeld10 => ?_)
  · (try dsimp only)
    exact cells5 (AlSt.H (by first | with_reducible exact hA | with_reducible exact hA.drew | with_reducible exact hA.alloc _ | with_reducible exact hA.drew.alloc _ | with_reducible exact (hA.alloc _).drew | with_reducible exact (hA.alloc _).alloc _))
  clear hK K hHeld9
  (try simp only [Act.put, List.setIfInBounds_toArray, List.set_cons_zero, List.set_cons_succ])
  refine wpAnyH_take (i := 30) (v := ?_) rfl (by kernel_rfl) (by kernel_rfl) (by kernel_rfl) (fun _ _ _ h => h) (Or.inl ⟨by kernel_rfl, ?_⟩) (by assumption) ?_
  rotate_left
  · (intro w hSw; (try dsimp only at hSw); go_simp; (first | done | with_reducible rfl))
  (try simp only [Act.put, List.setIfInBounds_toArray, List.set_cons_zero, List.set_cons_succ])
  refine wpAnyH_take (i := 31) (v := ?_) rfl (by kernel_rfl) (by kernel_rfl) (by kernel_rfl) (fun _ _ _ h => h) (Or.inl ⟨by kernel_rfl, ?_⟩) (by assumption) ?_
  rotate_left
  · (intro w hSw; (try dsimp only at hSw); go_simp; (first | done | with_reducible rfl))
  (try simp only [Act.put, List.setIfInBounds_toArray, List.set_cons_zero, List.set_cons_succ])
  refine wpAnyH_ready (rs := [32]) (by kernel_rfl) (by simp) ?_
  refine AllReadyH.cons rfl (fun K hK => ?_) AllReadyH.nil
  go_simp
  refine (text_any ⟨#[42, 97, 42]⟩ _).mono ?_
  rintro e w15 ⟨rfl, hb⟩
  replace hA := AlSt.later (m := m) (gB := gB) (gK := gK) (w := w) (by first | with_reducible exact hA | with_reducible exact hA.drew | with_reducible exact hA.alloc _ | with_reducible exact hA.drew.alloc _ | with_reducible exact (hA.alloc _).drew | with_reducible exact (hA.alloc _).alloc _) hb
  clear hb
  go_wp2_with fail
  refine hK.out _ _ ?_ (fun hHeld11 => ?_)
  · (try dsimp only)
    exact cells5 (AlSt.H (by first | with_reducible exact hA | with_reducible exact hA.drew | with_reducible exact hA.alloc _ | with_reducible exact hA.drew.alloc _ | with_reducible exact (hA.alloc _).drew | with_reducible exact (hA.alloc _).alloc _))
  clear hK K hHeld10
  (try simp only [Act.put, List.setIfInBounds_toArray, List.set_cons_zero, List.set_cons_succ])
  refine wpAnyH_ready (rs := [33]) (by kernel_rfl) (by simp) ?_
  refine AllReadyH.cons rfl (fun K hK => ?_) AllReadyH.nil
  go_simp
  refine hK.out _ _ ?_ (fun hHeld12 => ?_)
  · (try dsimp only)
    exact cells5 (AlSt.H (by first | with_reducible exact hA | with_reducible exact hA.drew | with_reducible exact hA.alloc _ | with_reducible exact hA.drew.alloc _ | with_reducible exact (hA.alloc _).drew | with_reducible exact (hA.alloc _).alloc _))
  clear hK K hHeld11
  (try simp only [Act.put, List.setIfInBounds_toArray, List.set_cons_zero, List.set_cons_succ])
  refine wpAnyH_ready (rs := [34]) (by kernel_rfl) (by simp) ?_
  refine AllReadyH.cons rfl (fun K hK => ?_) AllReadyH.nil
  go_simp
  refine (is_any ⟨#[92, 42, 97, 92, 42]⟩ [txt [42, 97, 42]] (by decide) alive_8.1 alive_8.2 _ _ m (forest_new_txt _ [42, 97, 42]) (AlSt.C (m := m) (gB := gB) (gK := gK) (w := w) (by first | with_reducible exact hA | with_reducible exact hA.drew | with_reducible exact hA.alloc _ | with_reducible exact hA.drew.alloc _ | with_reducible exact (hA.alloc _).drew | with_reducible exact (hA.alloc _).alloc _))).mono ?_
  rintro e w16 ⟨rfl, hb⟩
  replace hA := AlSt.later (m := m) (gB := gB) (gK := gK) (w := w) (by first | with_reducible exact hA | with_reducible exact hA.drew | with_reducible exact hA.alloc _ | with_reducible exact hA.drew.alloc _ | with_reducible exact (hA.alloc _).drew | with_reducible exact (hA.alloc _).alloc _) hb
  clear hb
  go_wp2_with fail
  refine hK.out _ _ ?_ (fun hHeld13 => ?_)
  · (try dsimp only)
    exact cells5 (AlSt.H (by first | with_reducible exact hA | with_reducible exact hA.drew | with_reducible exact hA.alloc _ | with_reducible exact hA.drew.alloc _ | with_reducible exact (hA.alloc _).drew | with_reducible exact (hA.alloc _).alloc _))
  clear hK K hHeld12
  (try simp only [Act.put, List.setIfInBounds_toArray, List.set_cons_zero, List.set_cons_succ])
  refine wpAnyH_take (i := 35) (v := ?_) rfl (by kernel_rfl) (by kernel_rfl) (by kernel_rfl) (fun _ _ _ h => h) (Or.inl ⟨by kernel_rfl, ?_⟩) (by assumption) ?_
  rotate_left
  · (intro w hSw; (try dsimp only at hSw); go_simp; (first | done | with_reducible rfl))
  (try simp only [Act.put, List.setIfInBounds_toArray, List.set_cons_zero, List.set_cons_succ])
  refine wpAnyH_take (i := 36) (v := ?_) rfl (by kernel_rfl) (by kernel_rfl) (by kernel_rfl) (fun _ _ _ h => h) (Or.inl ⟨by kernel_rfl, ?_⟩) (by assumption) ?_
  rotate_left
  · (intro w hSw; (try dsimp only at hSw); go_simp; (first | done | with_reducible rfl))
  (try simp only [Act.put, List.setIfInBounds_toArray, List.set_cons_zero, List.set_cons_succ])
  refine wpAnyH_ready (rs := [37]) (by kernel_rfl) (by simp) ?_
  refine AllReadyH.cons rfl (fun K hK => ?_) AllReadyH.nil
  go_simp
  refine (text_any ⟨#[97, 93]⟩ _).mono ?_
  rintro e w17 ⟨rfl, hb⟩
  replace hA := AlSt.later (m := m) (gB := gB) (gK := gK) (w := w) (by first | with_reducible exact hA | with_reducible exact hA.drew | with_reducible exact hA.alloc _ | with_reducible exact hA.drew.alloc _ | with_reducible exact (hA.alloc _).drew | with_reducible exact (hA.alloc _).alloc _) hb
  clear hb
  go_wp2_with fail
  refine hK.out _ _ ?_ (fun hHeld14 => ?_)
  · (try dsimp only)
    exact cells5 (AlSt.H (by first | with_reducible exact hA | with_reducible exact hA.drew | with_reducible exact hA.alloc _ | with_reducible exact hA.drew.alloc _ | with_reducible exact (hA.alloc _).drew | with_reducible exact (hA.alloc _).alloc _))
  clear hK K hHeld13
  (try simp only [Act.put, List.setIfInBounds_toArray, List.set_cons_zero, List.set_cons_succ])
  refine wpAnyH_ready (rs := [38]) (by kernel_rfl) (by simp) ?_
  refine AllReadyH.cons rfl (fun K hK => ?_) AllReadyH.nil
  go_simp
  refine hK.out _ _ ?_ (fun hHeld15 => ?_)
  · (try dsimp only)
    exact cells5 (AlSt.H (by first | with_reducible exact hA | with_reducible exact hA.drew | with_reducible exact hA.alloc _ | with_reducible exact hA.drew.alloc _ | with_reducible exact (hA.alloc _).drew | with_reducible exact (hA.alloc _).alloc _))
  clear hK K hHeld14
  (try simp only [Act.put, List.setIfInBounds_toArray, List.set_cons_zero, List.set_cons_succ])
  refine wpAnyH_ready (rs := [39]) (by kernel_rfl) (by simp) ?_
  refine AllReadyH.cons rfl (fun K hK => ?_) AllReadyH.nil
  go_simp
  refine (is_any ⟨#[97, 93]⟩ [txt [97, 93]] (by decide) alive_9.1 alive_9.2 _ _ m (forest_new_txt _ [97, 93]) (AlSt.C (m := m) (gB := gB) (gK := gK) (w := w) (by first | with_reducible exact hA | with_reducible exact hA.drew | with_reducible exact hA.alloc _ | with_reducible exact hA.drew.alloc _ | with_reducible exact (hA.alloc _).drew | with_reducible exact (hA.alloc _).alloc _))).mono ?_
  rintro e w18 ⟨rfl, hb⟩
  replace hA := AlSt.later (m := m) (gB := gB) (gK := gK) (w := w) (by first | with_reducible exact hA | with_reducible exact hA.drew | with_reducible exact hA.alloc _ | with_reducible exact hA.drew.alloc _ | with_reducible exact (hA.alloc _).drew | with_reducible exact (hA.alloc _).alloc _) hb
  clear hb
  go_wp2_with fail
  refine hK.out _ _ ?_ (fun hHeld16 => ?_)
  · (try dsimp only)
    exact cells5 (AlSt.H (by first | with_reducible exact hA | with_reducible exact hA.drew | with_reducible exact hA.alloc _ | with_reducible exact hA.drew.alloc _ | with_reducible exact (hA.alloc _).drew | with_reducible exact (hA.alloc _).alloc _))
  clear hK K hHeld15
  (try simp only [Act.put, List.setIfInBounds_toArray, List.set_cons_zero, List.set_cons_succ])
  refine wpAnyH_take (i := 40) (v := ?_) rfl (by kernel_rfl) (by kernel_rfl) (by kernel_rfl) (fun _ _ _ h => h) (Or.inl ⟨by kernel_rfl, ?_⟩) (by assumption) ?_
  rotate_left
  · (intro w hSw; (try dsimp only at hSw); go_simp; (first | done | with_reducible rfl))
  (try simp only [Act.put, List.setIfInBounds_toArray, List.set_cons_zero, List.set_cons_succ])
  refine wpAnyH_take (i := 41) (v := ?_) rfl (by kernel_rfl) (by kernel_rfl) (by kernel_rfl) (fun _ _ _ h => h) (Or.inl ⟨by kernel_rfl, ?_⟩) (by assumption) ?_
  rotate_left
  · (intro w hSw; (try dsimp only at hSw); go_simp; (first | done | with_reducible rfl))
  (try simp only [Act.put, List.setIfInBounds_toArray, List.set_cons_zero, List.set_cons_succ])
  refine wpAnyH_take (i := 43) (v := ?_) rfl (by kernel_rfl) (by kernel_rfl) (by kernel_rfl) (fun _ _ _ h => h) (Or.inl ⟨by kernel_rfl, ?_⟩) (by assumption) ?_
  rotate_left
  · (intro w hSw; (try dsimp only at hSw); go_simp; (first | done | with_reducible rfl))
  (try simp only [Act.put, List.setIfInBounds_toArray, List.set_cons_zero, List.set_cons_succ])
  refine wpAnyH_ready (rs := [42]) (by kernel_rfl) (by simp) ?_
  refine AllReadyH.cons rfl (fun K hK => ?_) AllReadyH.nil
  go_simp
  refine (text_any ⟨#[97, 32]⟩ _).mono ?_
  rintro e w19 ⟨rfl, hb⟩
  replace hA := AlSt.later (m := m) (gB := gB) (gK := gK) (w := w) (by first | with_reducible exact hA | with_reducible exact hA.drew | with_reducible exact hA.alloc _ | with_reducible exact hA.drew.alloc _ | with_reducible exact (hA.alloc _).drew | with_reducible exact (hA.alloc _).alloc _) hb
  clear hb
  go_wp2_with fail
  refine hK.out _ _ ?_ (fun hHeld17 => ?_)
  · (try dsimp only)
    exact cells5 (AlSt.H (by first | with_reducible exact hA | with_reducible exact hA.drew | with_reducible exact hA.alloc _ | with_reducible exact hA.drew.alloc _ | with_reducible exact (hA.alloc _).drew | with_reducible exact (hA.alloc _).alloc _))
  clear hK K hHeld16
  (try simp only [Act.put, List.setIfInBounds_toArray, List.set_cons_zero, List.set_cons_succ])
  refine wpAnyH_ready (rs := [44]) (by kernel_rfl) (by simp) ?_
  refine AllReadyH.cons rfl (fun K hK => ?_) AllReadyH.nil
  go_simp
  refine hK.out _ _ ?_ (fun hHeld18 => ?_)
  · (try dsimp only)
    exact cells5 (AlSt.H (by first | with_reducible exact hA | with_reducible exact hA.drew | with_reducible exact hA.alloc _ | with_reducible exact hA.drew.alloc _ | with_reducible exact (hA.alloc _).drew | with_reducible exact (hA.alloc _).alloc _))
  clear hK K hHeld17
  (try simp only [Act.put, List.setIfInBounds_toArray, List.set_cons_zero, List.set_cons_succ])
  refine wpAnyH_ready (rs := [45]) (by kernel_rfl) (by simp) ?_
  refine AllReadyH.cons rfl (fun K hK => ?_) AllReadyH.nil
  go_simp
  refine (Plain_any [txt [97, 32], spBold] (by decide) (by decide) _ _ (forest_lit (l := [txt [97, 32], spBold]) (kvs := [.slice none 0 0, .slice (some ⟨gK, 0, none⟩) 2 2]) (Holds.new _ _ _) rfl (by simp) (fun j x kv e1 e2 => by
    match j with
    | 0 => simp at e1 e2; subst e1; subst e2; exact Forest.nil _ _
    | 1 => simp at e1 e2; subst e1; subst e2; exact (hA.alloc _).K
    | j + 2 => simp at e1))).mono ?_
  rintro e w20 ⟨rfl, hb⟩
  replace hA := AlSt.later (m := m) (gB := gB) (gK := gK) (w := w) (by first | with_reducible exact hA | with_reducible exact hA.drew | with_reducible exact hA.alloc _ | with_reducible exact hA.drew.alloc _ | with_reducible exact (hA.alloc _).drew | with_reducible exact (hA.alloc _).alloc _) hb
  clear hb
  rw [alive_10]
  go_wp2_with fail
  refine hK.out _ _ ?_ (fun hHeld19 => ?_)
  · (try dsimp only)
    exact cells5 (AlSt.H (by first | with_reducible exact hA | with_reducible exact hA.drew | with_reducible exact hA.alloc _ | with_reducible exact hA.drew.alloc _ | with_reducible exact (hA.alloc _).drew | with_reducible exact (hA.alloc _).alloc _))
  clear hK K hHeld18
  (try simp only [Act.put, List.setIfInBounds_toArray, List.set_cons_zero, List.set_cons_succ])
  refine wpAnyH_take (i := 46) (oi := ⟨some 72, _, _, _, _, _⟩) (v := .bool true) rfl (by kernel_rfl) (by kernel_rfl) (by kernel_rfl) (fun _ _ _ h => h) (Or.inl ⟨by kernel_rfl, ?_⟩) (by assumption) ?_
  · (intro w hSw; kernel_rfl)
  (try simp only [Act.put, List.setIfInBounds_toArray, List.set_cons_zero, List.set_cons_succ])
  refine wpAnyH_take (i := 47) (v := ?_) rfl (by kernel_rfl) (by kernel_rfl) (by kernel_rfl) (fun _ _ _ h => h) (Or.inl ⟨by kernel_rfl, ?_⟩) (by assumption) ?_
  rotate_left
  · (intro w hSw; (try dsimp only at hSw); go_simp; (first | done | with_reducible rfl))
  (try simp only [Act.put, List.setIfInBounds_toArray, List.set_cons_zero, List.set_cons_succ])
  refine wpAnyH_take (i := 48) (v := ?_) rfl (by kernel_rfl) (by kernel_rfl) (by kernel_rfl) (fun _ _ _ h => h) (Or.inl ⟨by kernel_rfl, ?_⟩) (by assumption) ?_
  rotate_left
  · (intro w hSw; (try dsimp only at hSw); go_simp; (first | done | with_reducible rfl))
  (try simp only [Act.put, List.setIfInBounds_toArray, List.set_cons_zero, List.set_cons_succ])
  refine wpAnyH_take (i := 49) (v := ?_) rfl (by kernel_rfl) (by kernel_rfl) (by kernel_rfl) (fun _ _ _ h => h) (Or.inl ⟨by kernel_rfl, ?_⟩) (by assumption) ?_
  rotate_left
  · (intro w hSw; (try dsimp only at hSw); go_simp; (first | done | with_reducible rfl))
  (try simp only [Act.put, List.setIfInBounds_toArray, List.set_cons_zero, List.set_cons_succ])
  refine wpAnyH_ready (rs := [50]) (by kernel_rfl) (by simp) ?_
  refine AllReadyH.cons rfl (fun K hK => ?_) AllReadyH.nil
  go_simp
  refine hK.out _ _ ?_ (fun hHeld20 => ?_)
  · (try dsimp only)
    exact cells5 (AlSt.H (by first | with_reducible exact hA | with_reducible exact hA.drew | with_reducible exact hA.alloc _ | with_reducible exact hA.drew.alloc _ | with_reducible exact (hA.alloc _).drew | with_reducible exact (hA.alloc _).alloc _))
  clear hK K hHeld19
  (try simp only [Act.put, List.setIfInBounds_toArray, List.set_cons_zero, List.set_cons_succ])
  refine wpAnyH_ready (rs := [51]) (by kernel_rfl) (by simp) ?_
  refine AllReadyH.cons rfl (fun K hK => ?_) AllReadyH.nil
  go_simp
  refine (Each_any [spBold] (by decide) _ _ 2 (forest_one (x := spBold) (kv := .slice (some ⟨gK, 0, none⟩) 2 2) (Holds.new _ _ _) (by simp) (hA.alloc _).K)).mono ?_
  rintro e w30 ⟨eA, ec, rfl, _, hb⟩
  rw [alive_11]
  replace hA := AlSt.later (m := m) (gB := gB) (gK := gK) (w := w) (by first | with_reducible exact hA | with_reducible exact hA.drew | with_reducible exact hA.alloc _ | with_reducible exact hA.drew.alloc _ | with_reducible exact (hA.alloc _).drew | with_reducible exact (hA.alloc _).alloc _) hb
  clear hb
  go_wp2_with fail
  refine hK.out _ _ ?_ (fun hHeld21 => ?_)
  · (try dsimp only)
    exact cells5 (AlSt.H (by first | with_reducible exact hA | with_reducible exact hA.drew | with_reducible exact hA.alloc _ | with_reducible exact hA.drew.alloc _ | with_reducible exact (hA.alloc _).drew | with_reducible exact (hA.alloc _).alloc _))
  clear hK K hHeld20
  (try simp only [Act.put, List.setIfInBounds_toArray, List.set_cons_zero, List.set_cons_succ])
  refine wpAnyH_take (i := 52) (v := ?_) rfl (by kernel_rfl) (by kernel_rfl) (by kernel_rfl) (fun _ _ _ h => h) (Or.inl ⟨by kernel_rfl, ?_⟩) (by assumption) ?_
  rotate_left
  · (intro w hSw; (try dsimp only at hSw); go_simp; (first | done | with_reducible rfl))
  (try simp only [Act.put, List.setIfInBounds_toArray, List.set_cons_zero, List.set_cons_succ])
  refine wpAnyH_take (i := 53) (v := ?_) rfl (by kernel_rfl) (by kernel_rfl) (by kernel_rfl) (fun _ _ _ h => h) (Or.inl ⟨by kernel_rfl, ?_⟩) (by assumption) ?_
  rotate_left
  · (intro w hSw; (try dsimp only at hSw); go_simp; (first | done | with_reducible rfl))
  (try simp only [Act.put, List.setIfInBounds_toArray, List.set_cons_zero, List.set_cons_succ])
  refine wpAnyH_take (i := 54) (v := ?_) rfl (by kernel_rfl) (by kernel_rfl) (by kernel_rfl) (fun _ _ _ h => h) (Or.inl ⟨by kernel_rfl, ?_⟩) (by assumption) ?_
  rotate_left
  · (intro w hSw; (try dsimp only at hSw); go_simp; (first | done | with_reducible rfl))
  (try simp only [Act.put, List.setIfInBounds_toArray, List.set_cons_zero, List.set_cons_succ])
  refine wpAnyH_take (i := 55) (v := ?_) rfl (by kernel_rfl) (by kernel_rfl) (by kernel_rfl) (fun _ _ _ h => h) (Or.inl ⟨by kernel_rfl, ?_⟩) (by assumption) ?_
  rotate_left
  · (intro w hSw; (try dsimp only at hSw); go_simp; (first | done | with_reducible rfl))
  (try simp only [Act.put, List.setIfInBounds_toArray, List.set_cons_zero, List.set_cons_succ])
  refine wpAnyH_done (by kernel_rfl) ?_ _
  go_wp2
  go_ret
  rename_i o1 d1 q1 o2 d2 q2
  obtain rfl : 0 = d1 := Option.some.inj (Eq.trans (by kernel_rfl) q1)
  obtain rfl : 80 = d2 := Option.some.inj (Eq.trans (by kernel_rfl) q2)
  exact ⟨by kernel_rfl, AlSt.B (m := m) (gB := gB) (gK := gK) (w := w) (by first | with_reducible exact hA | with_reducible exact hA.drew | with_reducible exact hA.alloc _ | with_reducible exact hA.drew.alloc _ | with_reducible exact (hA.alloc _).drew | with_reducible exact (hA.alloc _).alloc _)⟩
end Go.Proofs.YtgiiglcgfbnaoaaGreatDoor
namespace Go.Bd
/-- nothing but styles begins with such a byte -/
def styC (c : UInt8) : Bool := !(c == 96 || c == 60 || c == 40 || c == 94 || c == 93 || c == 92)
theorem sty_ne {c : UInt8} (h : styC c = true) : c ≠ 96 ∧ c ≠ 60 ∧ c ≠ 40 ∧ c ≠ 94 ∧ c ≠ 93 ∧ c ≠ 92 := by
  simp only [styC, Bool.not_eq_true', Bool.or_eq_false_iff, beq_eq_false_iff_ne] at h
  obtain ⟨⟨⟨⟨⟨h1, h2⟩, h3⟩, h4⟩, h5⟩, h6⟩ := h
  exact ⟨h1, h2, h3, h4, h5, h6⟩
theorem step_sty {s : Bs} {i : Nat} (st : Pst) (hi : i < s.length) (h : styC (s.getD i 0) = true) :
    st.step s i = (if s.getD i 0 = 42 then st.mark s i 1 else if s.getD i 0 = 95 then st.mark s i 2 else st.write [s.getD i 0], i + 1) := by
  obtain ⟨h1, h2, h3, h4, h5, h6⟩ := sty_ne h
  unfold Pst.step
  rw [if_neg (fun h => h6 h.1), if_neg h1, if_neg (by rw [pre_ne hi h2]; simp), if_neg (by rw [pre_ne hi h3]; simp), if_neg (by rw [pre_ne hi h4]; simp), if_neg (fun h => h5 h.1)]
  split
  · rfl
  · split <;> rfl
/-- what was read, and what is read behind it -/
def join (R0 r : Rw) : Rw := match r.sp with
  | [] => ⟨R0.sp, R0.tx ++ r.tx⟩
  | x :: l => if x.kind = 0 then ⟨R0.sp ++ txt (R0.tx ++ x.text) :: l, r.tx⟩ else ⟨R0.sp ++ txt R0.tx :: x :: l, r.tx⟩
theorem join_write (R0 r : Rw) (s : Bs) : (join R0 r).write s = join R0 (r.write s) := by
  obtain ⟨sp, tx⟩ := r
  cases sp with
  | nil => simp [join, Rw.write]
  | cons x l =>
    simp only [join, Rw.write]
    split <;> rfl
theorem join_none (R0 : Rw) : join R0 Rw.none = R0 := by obtain ⟨sp, tx⟩ := R0; simp [join, Rw.none]
theorem join_flush {R0 : Rw} (h0 : R0.tx ≠ []) (r : Rw) : (join R0 r).flush.sp = (match r.flush.sp with
    | [] => R0.sp ++ [txt R0.tx]
    | x :: l => if x.kind = 0 then R0.sp ++ txt (R0.tx ++ x.text) :: l else R0.sp ++ txt R0.tx :: x :: l) := by
  obtain ⟨sp, tx⟩ := r
  cases sp with
  | nil =>
    by_cases ht : tx = []
    · subst ht; simp [join, Rw.flush, h0]
    · simp [join, Rw.flush, h0, ht, txt]
  | cons x l =>
    by_cases ht : tx = []
    · subst ht
      simp only [join, Rw.flush, if_true]
      split <;> rfl
    · simp only [join]
      split
      · rename_i hk; simp [Rw.flush, ht, hk]
      · rename_i hk; simp [Rw.flush, ht, hk]
theorem join_add {R0 : Rw} (h0 : R0.tx ≠ []) (r : Rw) (x : Sp) : (join R0 r).add x = join R0 (r.add x) := by
  unfold Rw.add
  split
  · exact join_write _ _ _
  · rename_i hk
    rw [join_flush h0]
    cases hf : r.flush.sp with
    | nil => simp [join, hk]
    | cons y l =>
      simp only [join, List.cons_append]
      split
      · simp
      · simp
theorem join_adds {R0 : Rw} (h0 : R0.tx ≠ []) : ∀ (l : List Sp) (r : Rw), l.foldl Rw.add (join R0 r) = join R0 (l.foldl Rw.add r)
  | [], r => rfl
  | x :: l, r => by rw [List.foldl_cons, List.foldl_cons, join_add h0, join_adds h0 l]
theorem join_spill {R0 : Rw} (h0 : R0.tx ≠ []) (f : Fr) (r : Rw) : spill f (join R0 r) = join R0 (spill f r) := by
  unfold spill
  rw [join_write, join_adds h0, join_write]
def Fr.on (f : Fr) (k : Nat) : Fr := { f with at' := f.at' + k }
/-- what is open, behind what was read -/
def behind (R0 : Fr) (k : Nat) : List Fr → List Fr
  | [] => []
  | [f] => [{ R0 with row := join R0.row f.row }]
  | f :: g :: r => f.on k :: behind R0 k (g :: r)
def after (R0 : Fr) (k : Nat) (st : Pst) : Pst := ⟨behind R0 k st.fs, st.faults.map fun p => (p.1 + k, p.2)⟩
theorem behind_length (R0 : Fr) (k : Nat) : ∀ l, (behind R0 k l).length = l.length
  | [] => rfl
  | [_] => rfl
  | _ :: g :: r => by simp only [behind, List.length_cons]; rw [behind_length R0 k (g :: r)]; rfl
theorem behind_onTop {R0 : Fr} (k : Nat) {g : Rw → Rw} (hg : ∀ r, g (join R0.row r) = join R0.row (g r)) : ∀ l, onTop g (behind R0 k l) = behind R0 k (onTop g l)
  | [] => rfl
  | [f] => by simp [behind, onTop, hg]
  | f :: q :: r => rfl
theorem behind_cons (R0 : Fr) (k : Nat) (f : Fr) {l : List Fr} (h : l ≠ []) : behind R0 k (f :: l) = f.on k :: behind R0 k l := by
  cases l with
  | nil => exact absurd rfl h
  | cons g r => rfl
theorem after_top {R0 : Fr} (k : Nat) {g : Rw → Rw} (hg : ∀ r, g (join R0.row r) = join R0.row (g r)) (st : Pst) : (after R0 k st).top g = after R0 k (st.top g) := by
  simp only [after, Pst.top, behind_onTop k hg]
theorem after_write (R0 : Fr) (k : Nat) (st : Pst) (s : Bs) : (after R0 k st).write s = after R0 k (st.write s) := after_top k (fun r => join_write R0.row r s) st
theorem after_tell (R0 : Fr) (k : Nat) (st : Pst) (i f : Nat) : (after R0 k st).tell (k + i) f = after R0 k (st.tell i f) := by
  simp [after, Pst.tell, Nat.add_comm]
theorem after_drop1 {R0 : Fr} (h0 : R0.row.tx ≠ []) (k : Nat) (st : Pst) : (after R0 k st).drop1 = after R0 k st.drop1 := by
  obtain ⟨fs, fa⟩ := st
  match fs with
  | [] => rfl
  | [f] => rfl
  | [f, g] => simp [after, Pst.drop1, behind, onTop, Fr.on, spill, join_write, join_adds h0]
  | f :: g :: q :: r =>
    simp [after, Pst.drop1, behind, onTop, Fr.on, spill]
theorem after_dropN {R0 : Fr} (h0 : R0.row.tx ≠ []) (k : Nat) : ∀ (n : Nat) (st : Pst), (after R0 k st).dropN n = after R0 k (st.dropN n)
  | 0, _ => rfl
  | n + 1, st => by rw [Pst.dropN, Pst.dropN, after_drop1 h0, after_dropN h0 k n]
theorem after_length (R0 : Fr) (k : Nat) (st : Pst) : (after R0 k st).fs.length = st.fs.length := behind_length R0 k st.fs
theorem after_drop {R0 : Fr} (h0 : R0.row.tx ≠ []) (k : Nat) (st : Pst) (n : Nat) : (after R0 k st).drop n = after R0 k (st.drop n) := by
  rw [Pst.drop, Pst.drop, after_length, after_dropN h0]
theorem after_shut {R0 : Fr} (h0 : R0.row.tx ≠ []) (k : Nat) (st : Pst) (h2 : 2 ≤ st.fs.length) : (after R0 k st).shut = after R0 k st.shut := by
  obtain ⟨fs, fa⟩ := st
  match fs, h2 with
  | f :: g :: r, _ =>
    simp only [after, Pst.shut, behind, Fr.on]
    rw [behind_onTop k (fun q => join_add h0 q _)]
theorem after_fin {R0 : Fr} (h0 : R0.row.tx ≠ []) (k : Nat) {st : Pst} {i n : Nat} (hI : Inv st i) (h1 : 0 < n) (hn : n < st.fs.length) : (after R0 k st).fin n = after R0 k (st.fin n) := by
  unfold Pst.fin
  rw [after_drop h0, after_shut h0]
  have := (hI.drop hn).2
  omega
theorem lastK_behind (R0 : Fr) (k q : Nat) : ∀ l, lastK q (behind R0 k l) = lastK q l
  | [] => rfl
  | [_] => rfl
  | f :: g :: r => by
    rw [behind_cons R0 k f (by simp), lastK, lastK_behind R0 k q (g :: r), behind_length]
    conv => rhs; rw [lastK]
    have : behind R0 k (g :: r) ≠ [] := fun h => by have := congrArg List.length h; rw [behind_length] at this; simp at this
    rw [if_neg this, if_neg (by simp : ¬ g :: r = [])]
    rfl
theorem atOf_behind (R0 : Fr) (k : Nat) : ∀ (l : List Fr) (n : Nat), 0 < n → n < l.length → atOf (behind R0 k l) n = atOf l n + k
  | [], n, _, h => by simp at h
  | [f], n, h0, h => by simp at h; omega
  | f :: g :: r, n, h0, h => by
    rw [behind_cons R0 k f (by simp)]
    by_cases hn : n < (g :: r).length
    · have ih := atOf_behind R0 k (g :: r) n h0 hn
      unfold atOf at *
      rw [List.reverse_cons, List.reverse_cons, List.getElem?_append_left (by rw [List.length_reverse, behind_length]; exact hn), List.getElem?_append_left (by simpa using hn)]
      exact ih
    · have e : n = (g :: r).length := by simp only [List.length_cons] at *; omega
      have e2 : n = (behind R0 k (g :: r)).length := by rw [behind_length]; exact e
      conv => lhs; rw [e2]
      conv => rhs; rw [e]
      rw [atOf_top', atOf_top']
      rfl
theorem after_begin (R0 : Fr) (k : Nat) {st : Pst} (h : 1 ≤ st.fs.length) (q i : Nat) (sign : Bs) : (after R0 k st).begin q (k + i) sign = after R0 k (st.begin q i sign) := by
  have hn : st.fs ≠ [] := fun e => by rw [e] at h; simp at h
  simp only [after, Pst.begin]
  rw [behind_cons R0 k _ hn]
  simp [Fr.on, Nat.add_comm]
section
variable {u t : Bs} {R0 : Fr}
theorem get_behind (u t : Bs) (i : Nat) : (u ++ t).getD (u.length + i) 0 = t.getD i 0 := by rw [getD_app_right (by omega), Nat.add_sub_cancel_left]
theorem after_mark (h0 : R0.row.tx ≠ []) {st : Pst} {i q : Nat} (hI : Inv st i) (hi : i < t.length) (hu : u.getLast? = some 32) : (after R0 u.length st).mark (u ++ t) (u.length + i) q = after R0 u.length (st.mark t i q) := by
  have hl := lastK_behind R0 u.length q st.fs
  have hul : 1 ≤ u.length := by cases u with
    | nil => simp at hu
    | cons a u => simp
  have hlast : u.getD (u.length - 1) 0 = 32 := by
    rw [List.getLast?_eq_getElem?] at hu
    rw [List.getD_eq_getElem?_getD, hu]; rfl
  have hafs : (after R0 u.length st).fs = behind R0 u.length st.fs := rfl
  have hp : (u ++ t).getD (u.length + i - 1) 0 = if i = 0 then 32 else t.getD (i - 1) 0 := by
    split
    · rename_i e; subst e; rw [getD_app_left (by omega)]; exact hlast
    · rw [show u.length + i - 1 = u.length + (i - 1) by omega, get_behind]
  have hn : (u ++ t).getD (u.length + i + 1) 0 = t.getD (i + 1) 0 := by rw [show u.length + i + 1 = u.length + (i + 1) by omega, get_behind]
  have hc : (u ++ t).getD (u.length + i) 0 = t.getD i 0 := get_behind u t i
  have hlen : (u ++ t).length = u.length + t.length := List.length_append
  have hroom : (after R0 u.length st).room = st.room := by unfold Pst.room; rw [after_length]
  unfold Pst.mark
  rw [hafs, hl, hp, hn, hc, hlen, hroom]
  have hat : 0 < lastK q st.fs → atOf (behind R0 u.length st.fs) (lastK q st.fs) = atOf st.fs (lastK q st.fs) + u.length := fun h => by
    rcases lastK_lt q st.fs with h1 | h1
    · omega
    · exact atOf_behind R0 u.length _ _ h h1
  have c1 : (lastK q st.fs > 0 ∧ atOf (behind R0 u.length st.fs) (lastK q st.fs) + 1 ≠ u.length + i ∧ 0 < u.length + i ∧ blank (if i = 0 then 32 else t.getD (i - 1) 0) = false ∧ ¬ (u.length + i + 1 < u.length + t.length ∧ solid (t.getD (i + 1) 0) = true)) ↔
      (lastK q st.fs > 0 ∧ atOf st.fs (lastK q st.fs) + 1 ≠ i ∧ 0 < i ∧ blank (t.getD (i - 1) 0) = false ∧ ¬ (i + 1 < t.length ∧ solid (t.getD (i + 1) 0) = true)) := by
    constructor
    · rintro ⟨a, b, _, d, e⟩
      rw [hat a] at b
      split at d
      · exact absurd d (by decide)
      · exact ⟨a, by omega, by omega, d, fun ⟨x, y⟩ => e ⟨by omega, y⟩⟩
    · rintro ⟨a, b, c, d, e⟩
      rw [hat a, if_neg (by omega)]
      exact ⟨a, by omega, by omega, d, fun ⟨x, y⟩ => e ⟨by omega, y⟩⟩
  have c2 : ((0 < u.length + i ∧ solid (if i = 0 then 32 else t.getD (i - 1) 0) = true) ∨ u.length + t.length ≤ u.length + i + 1 ∨ blank (t.getD (i + 1) 0) = true) ↔
      ((0 < i ∧ solid (t.getD (i - 1) 0) = true) ∨ t.length ≤ i + 1 ∨ blank (t.getD (i + 1) 0) = true) := by
    constructor
    · rintro (⟨_, b⟩ | b | b)
      · split at b
        · exact absurd b (by decide)
        · exact .inl ⟨by omega, b⟩
      · exact .inr (.inl (by omega))
      · exact .inr (.inr b)
    · rintro (⟨a, b⟩ | b | b)
      · exact .inl ⟨by omega, by rw [if_neg (by omega)]; exact b⟩
      · exact .inr (.inl (by omega))
      · exact .inr (.inr b)
  simp only [c1, c2]
  split
  · rename_i hcc
    rcases lastK_lt q st.fs with h1 | h1
    · omega
    · exact after_fin h0 _ hI hcc.1 h1
  · split
    · exact after_write _ _ _ _
    · split
      · rw [after_write, after_tell]
      · exact after_begin _ _ hI.2.2.1 _ _ _
theorem after_run (h0 : R0.row.tx ≠ []) (hu : u.getLast? = some 32) (ht : t.all styC = true) : ∀ (n i : Nat) (st : Pst), Inv st i → runP (u ++ t) n (u.length + i) (after R0 u.length st) = after R0 u.length (runP t n i st)
  | 0, _, _, _ => rfl
  | n + 1, i, st, hI => by
    rw [runP, runP]
    by_cases hi : i < t.length
    · have hc : (u ++ t).getD (u.length + i) 0 = t.getD i 0 := get_behind u t i
      have hs : styC (t.getD i 0) = true := by
        rw [List.getD_eq_getElem?_getD, List.getElem?_eq_getElem hi]
        exact List.all_eq_true.1 ht _ (List.getElem_mem hi)
      rw [if_pos (by rw [List.length_append]; omega), if_pos hi, step_sty _ (by rw [List.length_append]; omega) (by rw [hc]; exact hs), step_sty st hi hs, hc]
      simp only
      obtain ⟨h3, _, _⟩ := hI.step hi
      rw [step_sty st hi hs] at h3
      rw [← after_run h0 hu ht n (i + 1) _ h3, Nat.add_assoc]
      congr 1
      split
      · exact after_mark h0 hI hi hu
      · split
        · exact after_mark h0 hI hi hu
        · exact after_write _ _ _ _
    · rw [if_neg (by rw [List.length_append]; omega), if_neg hi]
/-- ahead of the seam nothing is read otherwise -/
theorem mark_ahead {s t : Bs} {st : Pst} {i q : Nat} (hi : i < s.length) : st.mark (s ++ [32] ++ t) i q = st.mark (s ++ [32]) i q := by
  have e1 : ∀ j, j < s.length + 1 → (s ++ [32] ++ t).getD j 0 = (s ++ [32]).getD j 0 := fun j hj => getD_app_left (by simpa using hj)
  have l1 : (s ++ [32]).length = s.length + 1 := by simp
  have l2 : (s ++ [32] ++ t).length = s.length + 1 + t.length := by simp; omega
  unfold Pst.mark
  rw [e1 i (by omega), e1 (i + 1) (by omega), e1 (i - 1) (by omega), l1, l2]
  have c1 : (i + 1 < s.length + 1 + t.length ∧ solid ((s ++ [32]).getD (i + 1) 0) = true) ↔ (i + 1 < s.length + 1 ∧ solid ((s ++ [32]).getD (i + 1) 0) = true) := by
    constructor <;> rintro ⟨_, b⟩ <;> exact ⟨by omega, b⟩
  have c2 : (s.length + 1 + t.length ≤ i + 1) ↔ (s.length + 1 ≤ i + 1) := by constructor <;> intro _ <;> omega
  simp only [c1, c2]
theorem run_ahead {s t : Bs} (hs : s.all styC = true) : ∀ (n i : Nat) (st : Pst), Inv st i → i ≤ s.length + 1 → (s.length + 1) - i ≤ n → R (s ++ [32] ++ t) i st = R (s ++ [32] ++ t) (s.length + 1) (runP (s ++ [32]) n i st)
  | 0, i, st, hI, hi, hn => by rw [show i = s.length + 1 by omega]; rfl
  | n + 1, i, st, hI, hi, hn => by
    rw [runP]
    by_cases hlt : i < s.length + 1
    · have hst : styC ((s ++ [32]).getD i 0) = true := by
        by_cases h1 : i < s.length
        · rw [getD_app_left h1, List.getD_eq_getElem?_getD, List.getElem?_eq_getElem h1]
          exact List.all_eq_true.1 hs _ (List.getElem_mem h1)
        · rw [show i = s.length by omega, getD_app_right (Nat.le_refl _)]; simp; decide
      have e1 : (s ++ [32] ++ t).getD i 0 = (s ++ [32]).getD i 0 := getD_app_left (by simpa using hlt)
      have hL : i < (s ++ [32] ++ t).length := by simp; omega
      have hL2 : i < (s ++ [32]).length := by simp; omega
      obtain ⟨h3, _, _⟩ := hI.step hL2
      rw [step_sty st hL2 hst] at h3
      rw [if_pos hL2, R_step hI hL, step_sty st hL (by rw [e1]; exact hst), step_sty st hL2 hst, e1]
      simp only at h3 ⊢
      rw [← run_ahead hs n (i + 1) _ h3 (by omega) (by omega)]
      congr 1
      by_cases h1 : i < s.length
      · rw [mark_ahead h1, mark_ahead h1]
      · have e : (s ++ [32]).getD i 0 = 32 := by rw [show i = s.length by omega, getD_app_right (Nat.le_refl _)]; simp
        rw [e]; rfl
    · rw [if_neg (by simp; omega), show i = s.length + 1 by omega]
theorem dropN_faults : ∀ (n : Nat) (st : Pst), n + 1 ≤ st.fs.length → (st.dropN n).faults.length = st.faults.length + n
  | 0, _, _ => rfl
  | n + 1, st, h => by
    have h1 := drop1_length (st := st) (by omega)
    rw [Pst.dropN, dropN_faults n _ (by omega)]
    obtain ⟨fs, fa⟩ := st
    match fs, h with
    | f :: g :: r, _ => simp [Pst.drop1]; omega
theorem tx_last {s : Bs} : ∃ pre : Pst, ∃ n, runP (s ++ [32]) n s.length pre = pre.write [32] := ⟨Pst.first, 1, by
  rw [runP, if_pos (by simp), step_plain _ (by simp) (by rw [getD_app_right (Nat.le_refl _)]; simp; decide), getD_app_right (Nat.le_refl _)]; simp [runP]⟩
/-- the state at the end of a text with a blank behind it -/
theorem R_blank {s : Bs} : ∀ (n i : Nat) (st : Pst), Inv st i → i ≤ s.length → s.all styC = true → s.length - i ≤ n → ∃ pre, Inv pre s.length ∧ R (s ++ [32]) i st = pre.write [32]
  | 0, i, st, hI, hi, hs, hn => by
    have e : i = s.length := by omega
    subst e
    refine ⟨st, hI, ?_⟩
    rw [R_step hI (by simp), step_plain _ (by simp) (by rw [getD_app_right (Nat.le_refl _)]; simp; decide), getD_app_right (Nat.le_refl _)]
    simp only [Nat.sub_self, List.getD_cons_zero]
    rw [R_end (by simp)]
  | n + 1, i, st, hI, hi, hs, hn => by
    by_cases h1 : i < s.length
    · have hst : styC ((s ++ [32]).getD i 0) = true := by
        rw [getD_app_left h1, List.getD_eq_getElem?_getD, List.getElem?_eq_getElem h1]
        exact List.all_eq_true.1 hs _ (List.getElem_mem h1)
      have hL2 : i < (s ++ [32]).length := by simp; omega
      obtain ⟨h3, _, _⟩ := hI.step hL2
      rw [step_sty st hL2 hst] at h3
      rw [R_step hI hL2, step_sty st hL2 hst]
      exact R_blank n (i + 1) _ h3 (by omega) hs (by omega)
    · exact R_blank 0 i st hI hi hs (by omega)
theorem insF_map (k : Nat) (p : Nat × Nat) : ∀ l : List (Nat × Nat), insF (p.1 + k, p.2) (l.map fun q => (q.1 + k, q.2)) = (insF p l).map fun q => (q.1 + k, q.2)
  | [] => rfl
  | q :: l => by
    simp only [List.map_cons, insF]
    by_cases h : p.1 ≤ q.1
    · rw [if_pos (by omega), if_pos h]; rfl
    · rw [if_neg (by omega), if_neg h, List.map_cons, insF_map k p l]
theorem sortF_map (k : Nat) : ∀ l : List (Nat × Nat), sortF (l.map fun q => (q.1 + k, q.2)) = (sortF l).map fun q => (q.1 + k, q.2)
  | [] => rfl
  | q :: l => by rw [List.map_cons, sortF, sortF, sortF_map k l, insF_map]
theorem manyL_app : ∀ a b : List Sp, manyL (a ++ b) = manyL a + manyL b
  | [], b => by simp [manyL]
  | x :: a, b => by rw [List.cons_append, manyL, manyL, manyL_app a b, Nat.add_assoc]
theorem many_txt (s : Bs) : many1 (txt s) = 1 := by simp [txt, many1, manyL]
/-- the law: what is told of both -/
theorem joins {s t : Bs} (hs : s.all styC = true) (ht : t.all styC = true) (hf : faultsAt (s ++ [32]) = []) :
    faultsOf (s ++ [32] ++ t) = faultsOf t ∧ spansOf (s ++ [32]) ≠ [] ∧ sayL (spansOf (s ++ [32] ++ t)) = sayL (spansOf (s ++ [32])) ++ sayL (spansOf t) ∧
      manyL (spansOf (s ++ [32])) + manyL (spansOf t) ≤ manyL (spansOf (s ++ [32] ++ t)) + 1 ∧ manyL (spansOf (s ++ [32] ++ t)) ≤ manyL (spansOf (s ++ [32])) + manyL (spansOf t) := by
  obtain ⟨pre, hpI, hpre⟩ := R_blank (s := s) s.length 0 Pst.first Inv.first (Nat.zero_le _) hs (by omega)
  have hra := run_ahead (t := t) hs (s.length + 1) 0 Pst.first Inv.first (by omega) (by omega)
  have hR : R (s ++ [32]) 0 Pst.first = runP (s ++ [32]) (s.length + 1) 0 Pst.first := by unfold R; simp
  rw [← hR, hpre] at hra
  -- the state behind the blank
  have hwI : Inv (pre.write [32]) (s.length + 1) := hpI.write [32]
  have hone : (pre.write [32]).fs.length = 1 ∧ (pre.write [32]).faults = [] := by
    have h1 : ((pre.write [32]).drop 0).faults = [] := by rw [← hpre, ← endP_eq]; exact hf
    have h2 := dropN_faults ((pre.write [32]).fs.length - 1 - 0) (pre.write [32]) (by have := hwI.2.2.1; omega)
    have h3 := hwI.2.2.1
    unfold Pst.drop at h1
    rw [h1, List.length_nil] at h2
    exact ⟨by omega, List.eq_nil_of_length_eq_zero (by omega)⟩
  obtain ⟨fs, fa⟩ := pre
  obtain ⟨q1, q2⟩ := hone
  match fs, q1 with
  | [f], _ =>
    have q3 : fa = [] := q2
    subst q3
    obtain ⟨F0, hF0⟩ : ∃ F0 : Fr, F0 = { f with row := f.row.write [32] } := ⟨_, rfl⟩
    have h0 : F0.row.tx ≠ [] := by rw [hF0]; simp [Rw.write]
    have hw : (Pst.write ⟨[f], []⟩ [32]) = ⟨[F0], []⟩ := by rw [hF0]; rfl
    rw [hw] at hpre hra hwI
    have hE : endP (s ++ [32]) = ⟨[F0], []⟩ := by rw [endP_eq, hpre]; rfl
    have hA : spansOf (s ++ [32]) = F0.row.sp ++ [txt F0.row.tx] := by
      unfold spansOf; rw [hE]; simp [Rw.flush, h0]
    have hul : (s ++ [32]).length = s.length + 1 := by simp
    have hst : (⟨[F0], []⟩ : Pst) = after F0 (s ++ [32]).length Pst.first := by
      simp [after, Pst.first, behind, join_none]
    have hB : R (s ++ [32] ++ t) 0 Pst.first = after F0 (s ++ [32]).length (R t 0 Pst.first) := by
      rw [hra]
      have e1 : R (s ++ [32] ++ t) (s.length + 1) ⟨[F0], []⟩ = runP (s ++ [32] ++ t) t.length (s.length + 1) ⟨[F0], []⟩ := by
        unfold R
        exact run_fuel _ _ _ _ hwI (by simp) (by simp; omega)
      rw [e1, hst, ← hul]
      exact after_run h0 (by simp) ht t.length 0 Pst.first Inv.first
    have hC : endP (s ++ [32] ++ t) = after F0 (s ++ [32]).length (endP t) := by
      rw [endP_eq, endP_eq, hB, after_drop h0]
    obtain ⟨q, hq⟩ := endP_one t
    have hT : spansOf t = q.row.flush.sp := by unfold spansOf; rw [hq]
    have hD : spansOf (s ++ [32] ++ t) = (join F0.row q.row).flush.sp := by
      unfold spansOf; rw [hC]; simp only [after, hq, behind]
    have hfa : faultsOf (s ++ [32] ++ t) = faultsOf t := by
      unfold faultsOf faultsAt
      rw [hC]
      simp only [after]
      rw [sortF_map, List.map_map]
      rfl
    have hsnd := sound_spans t
    rw [hT] at hsnd
    refine ⟨hfa, by rw [hA]; simp, ?_⟩
    rw [hD, join_flush h0, hA, hT]
    cases hl : q.row.flush.sp with
    | nil => simp [sayL, manyL]
    | cons x l =>
      rw [hl] at hsnd
      simp only
      split
      · rename_i hk
        have hx : many1 x = 1 := by
          simp only [sndL, Bool.and_eq_true] at hsnd
          have h1 := hsnd.1.1
          obtain ⟨k, tt, u, v, kids⟩ := x
          simp only at hk
          subst hk
          cases kids with
          | nil => rfl
          | cons y m => simp [snd1] at h1
        refine ⟨?_, ?_, ?_⟩
        · rw [sayL_app, sayL_app]
          simp only [sayL, say_txt, say1_text hk, List.append_assoc, List.append_nil]
        · rw [manyL_app, manyL_app]; simp only [manyL, many_txt, hx]; omega
        · rw [manyL_app, manyL_app]; simp only [manyL, many_txt, hx]; omega
      · refine ⟨?_, ?_, ?_⟩
        · rw [sayL_app, sayL_app]
          simp only [sayL, say_txt, List.append_assoc, List.append_nil]
        · rw [manyL_app, manyL_app]; simp only [manyL, many_txt]; omega
        · rw [manyL_app, manyL_app]; simp only [manyL, many_txt]; omega
  | [], h => simp [Pst.write, Pst.top, onTop] at h
  | f :: g :: r, h => simp [Pst.write, Pst.top, onTop] at h
end
end Go.Bd
