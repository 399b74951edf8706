/-
  Walks: a Book's lists of texts: all filled.
-/
import Derived.Test.YtkfffoolpdilnaaGreatDoorBkW
import Derived.Test.YtkfffoolpdilnaaGreatDoorBk0
import Derived.Test.YtkfffoolpdilnaaGreatDoorChg
namespace Go.Proofs.YtkfffoolpdilnaaGreatDoor
open Go.RowKit Go.Bd
theorem name_world2 {α : Sort _} {K : α → World → Prop} {a : α} {W : World} (h : ∀ W', W' = W → K a W') : K a W := h W rfl
/-- a list that is held: itself, as it is grown, its mark, how long it is -/
structure Ent where
  v : Value
  lg : Value
  n : Nat
  len : Nat
def Ent.cells (e : Ent) : List Value := [e.v, e.lg, .int .i64 (e.n : Int)]
def flat : List Ent → List Value
  | [] => []
  | e :: r => e.cells ++ flat r
theorem flat_at : ∀ {es : List Ent} {j : Nat} {e : Ent} {i : Nat} {u : Value}, es[j]? = some e → e.cells[i]? = some u → (flat es)[j * 3 + i]? = some u
  | [], _, _, _, _, h, _ => by simp at h
  | f :: es, 0, e, i, u, h, hu => by
    simp only [List.getElem?_cons_zero, Option.some.injEq] at h
    subst h
    rw [flat, Nat.zero_mul, Nat.zero_add, List.getElem?_append_left (List.getElem?_eq_some_iff.1 hu).1]
    exact hu
  | f :: es, j + 1, e, i, u, h, hu => by
    rw [flat, List.getElem?_append_right (by simp [Ent.cells]; omega)]
    rw [show (j + 1) * 3 + i - f.cells.length = j * 3 + i by simp [Ent.cells]; omega]
    exact flat_at (by simpa using h) hu
def tH : TypeId := 89
/-- a Book with these lists of texts -/
structure TxSt (O : Nat → Option Obj) (B : Nat) (w W : World) (bk : Nat) (cs : Array Value) (A : Option Addr) (c : Nat) (es : List Ent) : Prop where
  hb : Below B w W
  wB : B ≤ w.heap.size
  tab : Tab W
  tabB : 3 < B
  bkB : B ≤ bk
  hbk : Holds W bk 50 cs
  c3 : cs[3]? = some (.slice A es.length c)
  row : W.ownsRow B tH 3 (.slice A es.length c) es.length (flat es)
  bkr : (Value.slice A es.length c).ownBlock ≠ some bk
  ap : ∀ (i : Nat) e, es[i]? = some e → e.v.ownBlock ≠ some bk ∧ ∀ b, e.v.ownBlock = some b → (Value.slice A es.length c).ownBlock ≠ some b
  un : ∀ (i j : Nat) e f, i ≠ j → es[i]? = some e → es[j]? = some f → ∀ b, e.v.ownBlock = some b → f.v.ownBlock ≠ some b
  kp : ∀ (b : Nat) o, O b = some o → W.heap[b]? = some o
  kd : ∀ (b : Nat) o, O b = some o → b ≠ bk ∧ (Value.slice A es.length c).ownBlock ≠ some b ∧ ∀ (i : Nat) e, es[i]? = some e → e.v.ownBlock ≠ some b
  kl : ∀ (i : Nat) e b, es[i]? = some e → e.lg.ownBlock = some b → O b = none
  sm : es.length ≤ 1000000 ∧ ∀ (i : Nat) e, es[i]? = some e → e.n ≤ 1000000 ∧ e.len ≤ 2147483647 ∧ ∃ lA ll lc, e.lg = .slice lA ll lc
section
variable {O : Nat → Option Obj} {B : Nat} {w W W' : World} {bk : Nat} {cs : Array Value} {A : Option Addr} {c : Nat} {es : List Ent}
theorem TxSt.offV (h : TxSt O B w W bk cs A c es) {i b : Nat} {e : Ent} (he : es[i]? = some e) (hb : e.v.ownBlock = some b) : O b = none := by
  cases ho : O b with
  | none => rfl
  | some o => exact absurd hb ((h.kd b o ho).2.2 i e he)
theorem TxSt.chg {S : Nat → Prop} (h : TxSt O B w W bk cs A c es) (hc : Chg W W' S) (hS : ∀ k, S k → B ≤ k ∧ O k = none) (h1 : ¬ S bk) (h2 : ∀ b, (Value.slice A es.length c).ownBlock = some b → ¬ S b) : TxSt O B w W' bk cs A c es where
  hb := h.hb.trans (hc.toBelow (Nat.le_trans h.wB h.hb.size) (fun k hk => (hS k hk).1))
  wB := h.wB
  tab := h.tab.keep (hc.block _ h.tab.lt (fun hs => by have := (hS _ hs).1; have := h.tabB; omega))
  tabB := h.tabB
  bkB := h.bkB
  hbk := hc.holds h1 h.hbk
  c3 := h.c3
  row := hc.owns h.row h2
  bkr := h.bkr
  ap := h.ap
  un := h.un
  kp := fun b o ho => (hc.block b (Array.getElem?_eq_some_iff.1 (h.kp b o ho)).1 (fun hs => by rw [(hS b hs).2] at ho; cases ho)).trans (h.kp b o ho)
  kd := h.kd
  kl := h.kl
  sm := h.sm
end
/-- the first lists are filled -/
def Fl (B : Nat) (W : World) (es : List Ent) (k : Nat) : Prop :=
  ∀ (j : Nat) e, es[j]? = some e → ∃ xs, W.ownsRow B 9 1 e.v e.len xs ∧ (j < k → xs = List.replicate e.len (.string (wordB e.n)))
theorem Fl.chg {B : Nat} {W W' : World} {es : List Ent} {k : Nat} {S : Nat → Prop} (h : Fl B W es k) (hc : Chg W W' S) (hS : ∀ (j : Nat) e, es[j]? = some e → ∀ b, e.v.ownBlock = some b → ¬ S b) : Fl B W' es k := fun j e he => by
  obtain ⟨xs, h1, h2⟩ := h j e he
  exact ⟨xs, hc.owns h1 (hS j e he), h2⟩
/-- one list is being filled: so many of its texts -/
def Fi (B : Nat) (W : World) (es : List Ent) (k i : Nat) : Prop :=
  ∀ (j : Nat) e, es[j]? = some e → ∃ xs, W.ownsRow B 9 1 e.v e.len xs ∧ (j < k → xs = List.replicate e.len (.string (wordB e.n))) ∧ (j = k → xs.take i = List.replicate i (.string (wordB e.n)))
theorem Fi.chg {B : Nat} {W W' : World} {es : List Ent} {k i : Nat} {S : Nat → Prop} (h : Fi B W es k i) (hc : Chg W W' S) (hS : ∀ (j : Nat) e, es[j]? = some e → ∀ b, e.v.ownBlock = some b → ¬ S b) : Fi B W' es k i := fun j e he => by
  obtain ⟨xs, h1, h2⟩ := h j e he
  exact ⟨xs, hc.owns h1 (hS j e he), h2⟩
theorem Fi.put {O : Nat → Option Obj} {B : Nat} {w W : World} {bk : Nat} {cs : Array Value} {A : Option Addr} {c : Nat} {es : List Ent} {k i g cap : Nat} {e : Ent} (h : Fi B W es k i) (hs : TxSt O B w W bk cs A c es) (he : es[k]? = some e) (hv : e.v = .slice (some ⟨g, 0, none⟩) e.len cap) (hi : i < e.len) :
    Fi B (W.setCell ⟨g, i, none⟩ (.string (wordB e.n))) es k (i + 1) := fun j f hf => by
  obtain ⟨xs, h1, h2, h3⟩ := h j f hf
  by_cases hj : j = k
  · subst hj
    rw [he] at hf
    obtain rfl := Option.some.inj hf
    rw [hv] at h1 ⊢
    refine ⟨xs.set i (.string (wordB e.n)), own_set h1 i _, fun h => absurd h (Nat.lt_irrefl _), fun _ => ?_⟩
    have hxl : xs.length = e.len := own_length h1
    rw [List.take_set, List.take_add_one, h3 rfl, List.replicate_succ']
    have : i < xs.length := by omega
    rw [List.getElem?_eq_getElem this]
    simp only [Option.toList_some]
    simp [List.set_append]
  · refine ⟨xs, own_far h1 (fun hb => hs.un k j e f (fun e => hj e.symm) he hf g (by rw [hv]; rfl) hb) _, h2, fun h => absurd h hj⟩
set_option maxRecDepth 100000 in
set_option maxHeartbeats 4000000 in
theorem fillText_any {O : Nat → Option Obj} {B : Nat} {w W : World} {bk : Nat} {cs : Array Value} {A : Option Addr} {c : Nat} {es : List Ent} (hs : TxSt O B w W bk cs A c es) (hf : Fl B W es 0) :
    Calls Tryz.prog 34 #[.pointer (some ⟨bk, 0, none⟩)] W fun e W' => e = .returned (.tuple #[]) ∧ TxSt O B w W' bk cs A c es ∧ Fl B W' es es.length := by
  obtain ⟨m, hm⟩ : ∃ m, es.length = m := ⟨_, rfl⟩
  have HM := Lib.hid hm
  have hm1 : m ≤ 1000000 := by rw [← hm]; exact hs.sm.1
  have HS := Lib.hid hs
  have HF := Lib.hid hf
  rw [hm]
  clear hs hf hm
  go_enter Tryz.func34, Tryz.ntmps34
  go_wp2
  go_loopg [2] m (fun q i wr => ∃ k : Nat, k + q = m ∧ i = .int .i64 (k : Int) ∧ Hid (TxSt O B w wr bk cs A c es ∧ Fl B wr es k))
  case atStart => exact ⟨0, by omega, rfl, HS.out, HF.out⟩
  case round =>
    obtain ⟨k, hk, rfl, HR⟩ := hrel
    obtain ⟨gO, hgO⟩ : ∃ x, x = gk := ⟨_, rfl⟩
    subst hgO
    obtain ⟨wO, hwO⟩ : ∃ x, x = wr := ⟨_, rfl⟩
    subst hwO
    have b3 := (HR.out.1.hbk.cell 3).trans HR.out.1.c3
    rw [HM.out] at b3
    by_cases hlt : k < m
    · obtain ⟨e, he⟩ : ∃ x, es[k]? = some x := ⟨_, List.getElem?_eq_getElem (by rw [HM.out]; exact hlt)⟩
      have hrow := HR.out.1.row
      rw [HM.out] at hrow
      rcases hrow.2 with ⟨_, h0⟩ | ⟨tr, tc, cur, hv, _⟩
      · omega
      injection hv with e1 e2 e3
      subst e1
      subst e3
      have r0 := hrow.cells (g := tr) rfl (k * 3 + 0) _ (flat_at he rfl)
      have r1 := hrow.cells (g := tr) rfl (k * 3 + 1) _ (flat_at he rfl)
      have r2 := hrow.cells (g := tr) rfl (k * 3 + 2) _ (flat_at he rfl)
      rw [addr_add] at r0 r1 r2
      rw [Nat.add_zero] at r0
      obtain ⟨xs0, ho0, _⟩ := HR.out.2 k e he
      obtain ⟨vA, vc, hev, hvc⟩ := own_slice ho0
      obtain ⟨hen, hel, lA, ll, lc, hlg⟩ := HR.out.1.sm.2 k e he
      have HVL := Lib.hid (fun b hb => (ho0.lt b hb).2)
      rw [hev] at HVL
      rw [hev] at r0
      rw [hlg] at r1
      have HE := Lib.hid he
      have HEV := Lib.hid hev
      have hbo := World.block_lt_of_cell? _ _ r0
      have hst0 : Hid (TxSt O B w (wO.alloc (.cells #[.slice vA e.len vc, .slice lA ll lc, .int .i64 (e.n : Int)] 89)) bk cs (some ⟨tr, 0, none⟩) c es ∧ Fi B (wO.alloc (.cells #[.slice vA e.len vc, .slice lA ll lc, .int .i64 (e.n : Int)] 89)) es k 0 ∧ Holds (wO.alloc (.cells #[.slice vA e.len vc, .slice lA ll lc, .int .i64 (e.n : Int)] 89)) wO.heap.size 89 #[.slice vA e.len vc, .slice lA ll lc, .int .i64 (e.n : Int)]) := by
        have hch := (Chg.refl wO (fun _ => False)).alloc (.cells #[.slice vA e.len vc, .slice lA ll lc, .int .i64 (e.n : Int)] 89)
        refine ⟨HR.out.1.chg hch (fun _ h => h.elim) (fun h => h) (fun _ _ h => h), ?_, Holds.new wO _ _⟩
        intro j f hf
        obtain ⟨xs, h1, h2⟩ := HR.out.2.chg hch (fun _ _ _ _ _ h => h) j f hf
        exact ⟨xs, h1, h2, fun _ => rfl⟩
      clear he hrow ho0 hev HR
      go_wp2
      go_loopg [4] e.len (fun q vi wi => ∃ i : Nat, i + q = e.len ∧ vi = .int .i64 (i : Int) ∧ Hid (TxSt O B w wi bk cs (some ⟨tr, 0, none⟩) c es ∧ Fi B wi es k i ∧ Holds wi wO.heap.size 89 #[.slice vA e.len vc, .slice lA ll lc, .int .i64 (e.n : Int)]) ∧ wO.heap.size < wi.heap.size)
      case atStart => exact ⟨0, by omega, rfl, hst0.out, by simp⟩
      case round =>
        obtain ⟨i, hi, rfl, HI, hwi⟩ := hrel
        have x0 := HI.out.2.2.cell 0
        have x2 := HI.out.2.2.cell 2
        by_cases hil : i < e.len
        · obtain ⟨xs, ho, _⟩ := HI.out.2.1 k e HE.out
          rw [HEV.out] at ho
          rcases ho.2 with ⟨hv, h0⟩ | ⟨g, cap, cur, hv, _⟩
          · omega
          injection hv with e1 e2 e3
          subst e1
          subst e3
          obtain ⟨a, ha⟩ : ∃ a, xs[i]? = some a := ⟨_, List.getElem?_eq_getElem (by rw [own_length ho]; exact hil)⟩
          have a0 := own_cell ho ha
          have f0 := own_free ho i
          have hgB : B ≤ g ∧ g < wr.heap.size := by
            rcases ho.2 with ⟨h, _⟩ | ⟨g', cap', cur', hv', hg', hh', _⟩
            · cases h
            · injection hv' with e1
              have : g = g' := by simpa using e1
              subst this
              exact ⟨hg', (Array.getElem?_eq_some_iff.1 hh').1⟩
          have hgO : g < wO.heap.size := HVL.out g rfl
          have hne : wO.heap.size ≠ g := by omega
          have y0 : wr.cell? ⟨wO.heap.size, 0, none⟩ = some (.slice (some ⟨g, 0, none⟩) e.len vc) := x0
          have y2 : wr.cell? ⟨wO.heap.size, 2, none⟩ = some (.int .i64 (e.n : Int)) := x2
          have HTB := Lib.hid HI.out.1.tab
          have HAT := Lib.hid ha
          clear ho
          go_wp2
          refine wp_region_held_drew (S := (fun w' => w'.cell? ⟨wO.heap.size, 0, none⟩ = some (.slice (some ⟨g, 0, none⟩) e.len vc) ∧ w'.cell? ⟨wO.heap.size, 2, none⟩ = some (.int .i64 (e.n : Int)))) (by kernel_rfl) ?_ (fun hHeld0 => ?_)
          · (try dsimp only)
            first | exact ⟨y0, y2⟩ | exact ⟨z0, z2⟩ | exact ⟨u0, u2⟩
          refine wpAnyH_take (i := 0) (oi := ⟨some 28, _, _, _, _, _⟩) (v := ?_) rfl (by kernel_rfl) (by kernel_rfl) (by kernel_rfl) (fun _ _ _ h => h) (Or.inl ⟨by kernel_rfl, ?_⟩) (by assumption) ?_
          rotate_left
          · (intro w hSw; (try dsimp only at hSw); go_simp; (first | done | with_reducible rfl))
          (try simp only [Act.put, List.setIfInBounds_toArray, List.set_cons_zero, List.set_cons_succ])
          refine wpAnyH_take (i := 1) (oi := ⟨some 29, _, _, _, _, _⟩) (v := ?_) rfl (by kernel_rfl) (by kernel_rfl) (by kernel_rfl) (fun _ _ _ h => h) (Or.inl ⟨by kernel_rfl, ?_⟩) (by assumption) ?_
          rotate_left
          · (intro w hSw; (try dsimp only at hSw); go_simp; (first | done | with_reducible rfl))
          (try simp only [Act.put, List.setIfInBounds_toArray, List.set_cons_zero, List.set_cons_succ])
          refine wpAnyH_take (i := 2) (oi := ⟨some 30, _, _, _, _, _⟩) (v := ?_) rfl (by kernel_rfl) (by kernel_rfl) (by kernel_rfl) (fun _ _ _ h => h) (Or.inl ⟨by kernel_rfl, ?_⟩) (by assumption) ?_
          rotate_left
          · (intro w hSw; (try dsimp only at hSw); go_simp; (first | done | with_reducible rfl))
          (try simp only [Act.put, List.setIfInBounds_toArray, List.set_cons_zero, List.set_cons_succ])
          refine wpAnyH_take (i := 3) (oi := ⟨some 31, _, _, _, _, _⟩) (v := ?_) rfl (by kernel_rfl) (by kernel_rfl) (by kernel_rfl) (fun _ _ _ h => h) (Or.inl ⟨by kernel_rfl, ?_⟩) (by assumption) ?_
          rotate_left
          · (intro w hSw; (try dsimp only at hSw); go_simp; (first | done | with_reducible rfl))
          (try simp only [Act.put, List.setIfInBounds_toArray, List.set_cons_zero, List.set_cons_succ])
          refine wpAnyH_take (i := 4) (oi := ⟨some 32, _, _, _, _, _⟩) (v := ?_) rfl (by kernel_rfl) (by kernel_rfl) (by kernel_rfl) (fun _ _ _ h => h) (Or.inl ⟨by kernel_rfl, ?_⟩) (by assumption) ?_
          rotate_left
          · (intro w hSw; (try dsimp only at hSw); go_simp; (first | done | with_reducible rfl))
          (try simp only [Act.put, List.setIfInBounds_toArray, List.set_cons_zero, List.set_cons_succ])
          refine wpAnyH_ready (rs := [5]) (by kernel_rfl) (by simp) ?_
          refine AllReadyH.cons (o := ⟨some 33, _, _, _, _, _⟩) rfl (fun K hK => ?_) AllReadyH.nil
          go_simp
          refine (markText_any e.n (by omega) wr.drew HTB.out).mono ?_
          rintro e' w2 ⟨rfl, hb2⟩
          have hch : Chg wr w2 (fun _ => False) := ((Chg.refl wr (fun _ => False)).drew).trans (Chg.below hb2 (fun _ => False)) (fun _ _ h => h)
          have HI2 : Hid (TxSt O B w w2 bk cs (some ⟨tr, 0, none⟩) c es ∧ Fi B w2 es k i ∧ Holds w2 wO.heap.size 89 #[.slice (some ⟨g, 0, none⟩) e.len vc, .slice lA ll lc, .int .i64 (e.n : Int)]) :=
            ⟨HI.out.1.chg hch (fun _ h => h.elim) (fun h => h) (fun _ _ h => h), HI.out.2.1.chg hch (fun _ _ _ _ _ h => h), hch.holds (fun h => h) HI.out.2.2⟩
          have hs2 := hch.size
          have z0 : w2.cell? ⟨wO.heap.size, 0, none⟩ = some (.slice (some ⟨g, 0, none⟩) e.len vc) := HI2.out.2.2.cell 0
          have z2 : w2.cell? ⟨wO.heap.size, 2, none⟩ = some (.int .i64 (e.n : Int)) := HI2.out.2.2.cell 2
          have a2 : w2.cell? ⟨g, i, none⟩ = some a := hch.cell (fun h => h) a0
          have f2 : w2.frozen? ⟨g, i, none⟩ = false := by
            obtain ⟨xs', ho', _⟩ := HI2.out.2.1 k e HE.out
            rw [HEV.out] at ho'
            exact own_free ho' i
          clear hb2 hch
          go_wp2_with fail
          refine hK.out _ _ ?_ (fun hHeld1 => ?_)
          · (try dsimp only)
            first | exact ⟨y0, y2⟩ | exact ⟨z0, z2⟩ | exact ⟨u0, u2⟩
          clear hK K hHeld0
          (try simp only [Act.put, List.setIfInBounds_toArray, List.set_cons_zero, List.set_cons_succ])
          refine wpAnyH_take (i := 6) (oi := ⟨some 34, _, _, _, _, _⟩) (v := ?_) rfl (by kernel_rfl) (by kernel_rfl) (by kernel_rfl) (fun _ _ _ h => h) (Or.inl ⟨by kernel_rfl, ?_⟩) (by assumption) ?_
          rotate_left
          · (intro w hSw; (try dsimp only at hSw); go_simp; (first | done | with_reducible rfl))
          (try simp only [Act.put, List.setIfInBounds_toArray, List.set_cons_zero, List.set_cons_succ])
          refine wpAnyH_ready (rs := [7]) (by kernel_rfl) (by simp) ?_
          refine AllReadyH.cons rfl (fun K hK => ?_) AllReadyH.nil
          go_simp
          refine name_world2 ?_
          intro w9 hw9
          have HI9 : Hid (TxSt O B w w9 bk cs (some ⟨tr, 0, none⟩) c es ∧ Fi B w9 es k (i + 1) ∧ Holds w9 wO.heap.size 89 #[.slice (some ⟨g, 0, none⟩) e.len vc, .slice lA ll lc, .int .i64 (e.n : Int)]) := by
            rw [hw9]
            have hc := Chg.set w2 ⟨g, i, none⟩ (.string (wordB e.n))
            refine ⟨HI2.out.1.chg hc (fun k' e' => by subst e'; exact ⟨hgB.1, HI2.out.1.offV HE.out (by rw [HEV.out]; rfl)⟩) (fun h => (HI2.out.1.ap k e HE.out).1 (by rw [HEV.out, h]; rfl)) (fun b hb h => (HI2.out.1.ap k e HE.out).2 g (by rw [HEV.out]; rfl) (by rw [hb, h])), Fi.put HI2.out.2.1 HI2.out.1 HE.out HEV.out hil, HI2.out.2.2.far hne _⟩
          have hz9 : w9.heap.size = w2.heap.size := by rw [hw9]; simp [World.setCell]
          have u0 : w9.cell? ⟨wO.heap.size, 0, none⟩ = some (.slice (some ⟨g, 0, none⟩) e.len vc) := HI9.out.2.2.cell 0
          have u2 : w9.cell? ⟨wO.heap.size, 2, none⟩ = some (.int .i64 (e.n : Int)) := HI9.out.2.2.cell 2
          clear hw9
          refine hK.out _ _ ?_ (fun hHeld2 => ?_)
          · (try dsimp only)
            first | exact ⟨y0, y2⟩ | exact ⟨z0, z2⟩ | exact ⟨u0, u2⟩
          clear hK K hHeld1
          (try simp only [Act.put, List.setIfInBounds_toArray, List.set_cons_zero, List.set_cons_succ])
          refine wpAnyH_done (by kernel_rfl) ?_ _
          go_wp2
          go_roundg (gk - 1)
          case measure => omega
          case rel => exact ⟨i + 1, by omega, by go_num, HI9.out, by omega⟩
        · obtain rfl : i = e.len := by omega
          have HFN : Hid (TxSt O B w wr bk cs (some ⟨tr, 0, none⟩) c es ∧ Fl B wr es (k + 1)) := by
            refine ⟨HI.out.1, fun j f hf => ?_⟩
            obtain ⟨xs, h1, h2, h3⟩ := HI.out.2.1 j f hf
            refine ⟨xs, h1, fun hj => ?_⟩
            by_cases hjk : j < k
            · exact h2 hjk
            · obtain rfl : j = k := by omega
              have he := HE.out
              rw [he] at hf
              obtain rfl := Option.some.inj hf
              have h4 := h3 rfl
              rw [List.take_of_length_le (by rw [own_length h1]; exact Nat.le_refl _)] at h4
              exact h4
          clear HI
          go_wp2
          go_roundg (gO - 1)
          case measure => omega
          case rel => exact ⟨k + 1, by omega, by go_num, HFN.out⟩
    · obtain rfl : k = m := by omega
      go_wp2
      go_end0
      exact ⟨rfl, HR.out.1, HR.out.2⟩
end Go.Proofs.YtkfffoolpdilnaaGreatDoor
