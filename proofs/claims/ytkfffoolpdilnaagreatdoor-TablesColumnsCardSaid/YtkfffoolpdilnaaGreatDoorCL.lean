/-
  The law TablesColumns: its walk.
-/
import Derived.Test.YtkfffoolpdilnaaGreatDoorRbk2
import Derived.Test.YtkfffoolpdilnaaGreatDoorRlin
import Derived.Test.YtkfffoolpdilnaaGreatDoorTwH
import Derived.Test.YtkfffoolpdilnaaGreatDoorGC
import Derived.Test.YtkfffoolpdilnaaGreatDoorGB
import Derived.Test.YtkfffoolpdilnaaGreatDoorGH
namespace Go.Proofs.YtkfffoolpdilnaaGreatDoor
open Go.RowKit Go.Bd
/-- what is kept while the answers are asked -/
structure ColSt (w W : World) (LA : Option Addr) (lc : Nat) (ls : List (List ByteArray)) (gs : List (Nat × Nat)) (s1 s2 : Nat) (av bv : Value) : Prop where
  B : Below w.heap.size w W
  T : TwGrid W w.heap.size LA lc ls gs
  g1 : ∀ (j : Nat) p, gs[j]? = some p → p.1 < s1
  v1 : ∀ b, (Value.slice LA ls.length lc).ownBlock = some b → b < s1
  A : W.ownsRow s1 3 1 av (wid ls).length ((wid ls).map natV)
  a2 : ∀ b, av.ownBlock = some b → b < s2
  B2 : W.ownsRow s2 9 1 bv (linesOf ls).length ((linesOf ls).map Value.string)
  s0 : w.heap.size ≤ s1 ∧ s1 ≤ s2 ∧ s2 ≤ W.heap.size
theorem ColSt.below {w W W' : World} {LA : Option Addr} {lc : Nat} {ls : List (List ByteArray)} {gs : List (Nat × Nat)} {s1 s2 : Nat} {av bv : Value} (h : ColSt w W LA lc ls gs s1 s2 av bv) (hb : Below W.heap.size W W') : ColSt w W' LA lc ls gs s1 s2 av bv :=
  ⟨h.B.trans (hb.mono h.B.size), h.T.below hb, h.g1, h.v1, own_below h.A hb, h.a2, own_below h.B2 hb, ⟨h.s0.1, h.s0.2.1, Nat.le_trans h.s0.2.2 hb.size⟩⟩
theorem ColSt.chg {w W W' : World} {LA : Option Addr} {lc : Nat} {ls : List (List ByteArray)} {gs : List (Nat × Nat)} {s1 s2 s3 : Nat} {av bv : Value} {S : Nat → Prop} (h : ColSt w W LA lc ls gs s1 s2 av bv) (hc : Chg W W' S) (h2 : s2 ≤ s3) (hb : ∀ b, bv.ownBlock = some b → b < s3) (hS : ∀ k, S k → s3 ≤ k) : ColSt w W' LA lc ls gs s1 s2 av bv := by
  have hs := h.s0
  refine ⟨h.B.trans (hc.toBelow h.B.size (fun k hk => by have := hS k hk; omega)), h.T.chg hc (fun b hb h' => by have := h.v1 b hb; have := hS b h'; omega) (fun j p hp h' => by have := h.g1 j p hp; have := hS _ h'; omega), h.g1, h.v1, hc.owns h.A (fun b hb h' => by have := h.a2 b hb; have := hS b h'; omega), h.a2, hc.owns h.B2 (fun b hb' h' => by have := hb b hb'; have := hS b h'; omega), ⟨hs.1, hs.2.1, Nat.le_trans hs.2.2 hc.size⟩⟩
theorem most_le : ∀ (ls : List (List ByteArray)) (n : Nat), n ≤ 5000 → (∀ r ∈ ls, r.length ≤ 5000) → ls.foldl (fun n r => max n r.length) n ≤ 5000
  | [], n, h, _ => h
  | r :: ls, n, h, hr => most_le ls _ (by have := hr r (List.mem_cons_self ..); show max n r.length ≤ 5000; omega) (fun x hx => hr x (List.mem_cons_of_mem _ hx))
theorem none_new : NoneOf bookCells := fun i hi => by
  have : i = 1 ∨ i = 4 ∨ i = 5 ∨ i = 6 ∨ i = 7 ∨ i = 8 ∨ i = 9 ∨ i = 10 ∨ i = 11 ∨ i = 12 ∨ i = 13 ∨ i = 14 ∨ i = 15 ∨ i = 16 ∨ i = 17 := by omega
  rcases this with rfl | rfl | rfl | rfl | rfl | rfl | rfl | rfl | rfl | rfl | rfl | rfl | rfl | rfl | rfl <;> rfl
set_option maxRecDepth 100000 in
set_option maxHeartbeats 4000000 in
theorem tablesColumns_any (v : Value) (ls : List (List ByteArray)) (w : World) (ht : Tab w) (h : Grid w w.heap.size v ls) (hl : ls.length ≤ 140737488355328) (hr : ∀ r ∈ ls, r.length ≤ 140737488355328) (hx : ∀ r ∈ ls, ∀ s ∈ r, s.size ≤ 140737488355328) :
    Calls Tryz.prog 3 #[v] w fun e w' => e = .returned (.bool true) ∧ Below w.heap.size w w' := by
  have cg := great_any v ls w w.heap.size h hl hr hx
  obtain ⟨A, c, rfl, hc, _⟩ := h.form
  have HG := Lib.hid h
  have HTB := Lib.hid ht
  clear h hr hx ht
  generalize hn : ls.length = n at hl hc cg HG ⊢
  have HN := Lib.hid hn
  clear hn
  go_enter Tryz.func3, Tryz.ntmps3
  go_wp2_with fail
  refine cg.mono ?_
  clear cg
  rintro e w0 ⟨⟨g, rfl, hok⟩, rfl⟩
  cases g with
  | true =>
    clear hok
    go_wp2
    go_ret
    exact ⟨rfl, Below.refl _ _⟩
  | false =>
    obtain ⟨hn2, hok⟩ := hok rfl
    have HOK := Lib.hid hok
    have hrr : Hid (∀ r ∈ ls, r.length ≤ 5000) := fun r hr => (hok r hr).1
    have hss : Hid (∀ r ∈ ls, ∀ s ∈ r, s.size ≤ 5000) := fun r hr => (hok r hr).2
    clear hok
    have hll : ls.length ≤ 200 := by rw [HN.out]; exact hn2
    have HLL := Lib.hid hll
    clear hll
    go_wp2_with fail
    refine (twinGrid_any (.slice A n c) ls w w.heap.size HG.out (Nat.le_refl _) (by have := HLL.out; omega) (fun r hr => by have := hrr.out r hr; omega)).mono ?_
    rintro e w1 ⟨LA, lc, gs, rfl, hT1, hb1⟩
    have H1 := Lib.hid (And.intro hT1 hb1)
    clear hT1 hb1
    go_wp2_with fail
    have cw := widths_any (.slice LA ls.length lc) ls w1 w1.heap.size H1.out.1.grid (Nat.le_refl _) (by have := HLL.out; omega) (fun r hr => by have := hrr.out r hr; omega) (fun r hr s hs => by have := hss.out r hr s hs; omega)
    refine cw.mono ?_
    clear cw
    rintro e w2 ⟨av, rfl, hoa, hb2⟩
    have H2 := Lib.hid (And.intro (H1.out.1.below hb2) (And.intro (H1.out.2.trans (hb2.mono H1.out.2.size)) (And.intro hoa hb2.size)))
    clear hoa hb2
    go_wp2_with fail
    have cl := lines_any (.slice LA ls.length lc) ls w2 w2.heap.size H2.out.1.grid (Nat.le_refl _) (by have := HLL.out; omega) (fun r hr => by have := hrr.out r hr; omega) (fun r hr s hs => by have := hss.out r hr s hs; omega)
    refine cl.mono ?_
    clear cl
    rintro e w3 ⟨bv, rfl, hob, hb3⟩
    have S3 : ColSt w w3 LA lc ls gs w1.heap.size w2.heap.size av bv :=
      ⟨H2.out.2.1.trans (hb3.mono H2.out.2.1.size), H2.out.1.below hb3, fun j p hp => (H1.out.1.lt hp).2, fun b hb => (H1.out.1.own.lt b hb).2, own_below H2.out.2.2.1 hb3, fun b hb => (H2.out.2.2.1.lt b hb).2, hob, ⟨H1.out.2.size, H2.out.2.2.2, hb3.size⟩⟩
    have H3 := Lib.hid S3
    clear S3 hob hb3 H1 H2
    go_wp2_with fail
    have cw := refWidths_any (.slice A n c) ls w3 w.heap.size (HG.out.below H3.out.B) H3.out.B.size (by have := HLL.out; omega) (fun r hr => by have := hrr.out r hr; omega) (fun r hr s hs => by have := hss.out r hr s hs; omega)
    refine cw.mono ?_
    clear cw
    rintro e w4 ⟨cv, rfl, hoc, hb4⟩
    have H4 := Lib.hid (And.intro (H3.out.below hb4) hoc)
    clear hoc hb4 H3
    go_wp2_with fail
    have hwl : (wid ls).length ≤ 140737488355328 := by
      have e1 := wid_length ls
      have : most ls ≤ 5000 := most_le ls 0 (by omega) hrr.out
      omega
    refine (sameInts_any av cv (wid ls) (wid ls) w4 w4.heap.size (own_rd H4.out.1.A) (own_rd H4.out.2) hwl hwl).mono ?_
    rintro e w5 ⟨rfl, hb5⟩
    rw [decide_eq_true rfl]
    have H5 := Lib.hid (H4.out.1.below hb5)
    clear hb5 H4
    go_wp2_with fail
    have cl := refLines_any (.slice A n c) ls w5 w.heap.size (HG.out.below H5.out.B) H5.out.B.size (by have := HLL.out; omega) (fun r hr => by have := hrr.out r hr; omega) (fun r hr s hs => by have := hss.out r hr s hs; omega)
    refine cl.mono ?_
    clear cl
    rintro e w6 ⟨dv, rfl, hod, hb6⟩
    have H6 := Lib.hid (And.intro (H5.out.below hb6) hod)
    clear hod hb6 H5
    go_wp2_with fail
    have hlen : (linesOf ls).length ≤ 140737488355328 := by
      have := HLL.out
      rw [linesOf, List.length_map]; omega
    refine (sameTexts_any bv dv (linesOf ls) (linesOf ls) w6 w6.heap.size (own_rd H6.out.1.B2) (own_rd H6.out.2) hlen hlen).mono ?_
    rintro e w7 ⟨rfl, hb7⟩
    rw [decide_eq_true rfl]
    have H7 := Lib.hid (H6.out.1.below hb7)
    clear hb7 H6
    go_wp2_with fail
    refine (leftGrid_any (.slice A n c) ls w7 w.heap.size w.heap.size LA lc gs (HG.out.below H7.out.B) H7.out.B.size H7.out.T (by have := HLL.out; omega) (fun r hr => by have := hrr.out r hr; omega)).mono ?_
    rintro e w8 ⟨rfl, hb8⟩
    have S8 := H7.out.below hb8
    clear hb8 H7
    obtain ⟨aA, aC, rfl, _⟩ := own_slice S8.A
    obtain ⟨bA, bC, rfl, _⟩ := own_slice S8.B2
    have q2 : w2.heap.size ≤ w8.heap.size := S8.s0.2.2
    have q1 : w1.heap.size ≤ w2.heap.size := S8.s0.2.1
    have q0 : w.heap.size ≤ w1.heap.size := S8.s0.1
    have qb : Hid (∀ b, (Value.slice bA (linesOf ls).length bC).ownBlock = some b → w2.heap.size ≤ b ∧ b < w8.heap.size) := fun b hb => S8.B2.lt b hb
    have htl := HTB.out.lt
    have hb9 : Below w.heap.size w (w8.alloc (.cells bookCells 50)) := S8.B.alloc S8.B.size _
    have T0 := tx_new hb9 (Nat.le_refl _) (HTB.out.below hb9 htl) htl S8.B.size (Holds.new w8 _ _) rfl
    have K0 : Told w (w8.alloc (.cells bookCells 50)) w8.heap.size bookCells none 0 ls gs (w8.heap.size + 1) 0 [] :=
      ⟨T0, rfl, rfl, rfl, none_new, (fun _ _ h => by simp at h), (fun _ h => by cases h)⟩
    have HK0 := Lib.hid (And.intro K0 (S8.below ((Below.refl _ _).alloc (Nat.le_refl _) (.cells bookCells 50))))
    clear S8 hb9 T0 K0
    have hwid : (wid ls).length ≤ 5000 := by
      rw [wid_length]
      exact most_le ls 0 (by omega) hrr.out
    have hlin : (linesOf ls).length ≤ 200 := by
      have := HLL.out
      rw [linesOf, List.length_map]; exact this
    go_wp2_with fail
    go_loopg [7] ls.length (fun q vi wr => ∃ i : Nat, i + q = ls.length ∧ vi = .int .i64 (i : Int) ∧ Hid (∃ cs A c es, Told w wr w8.heap.size cs A c ls gs (w8.heap.size + 1) i es ∧ ColSt w wr LA lc ls gs w1.heap.size w2.heap.size (.slice aA (wid ls).length aC) (.slice bA (linesOf ls).length bC) ∧ w8.heap.size + 1 ≤ wr.heap.size))
    case atStart => exact ⟨0, by omega, rfl, _, _, _, _, HK0.out.1, HK0.out.2, by simp⟩
    case round =>
      clear HK0
      obtain ⟨i, hi, rfl, HI⟩ := hrel
      have hlb := HLL.out
      by_cases hlt : i < ls.length
      · obtain ⟨r, hri⟩ : ∃ r, ls[i]? = some r := ⟨_, List.getElem?_eq_getElem hlt⟩
        obtain ⟨cs, A0, c0, es, K, S, hsz⟩ := HI.out
        obtain ⟨p, hpi⟩ : ∃ p, gs[i]? = some p := ⟨_, List.getElem?_eq_getElem (by rw [S.T.len]; exact hlt)⟩
        obtain ⟨gO, cO, hv, _⟩ := own_some S.T.own (by omega)
        injection hv with e1 _ e3
        subst e1
        subst e3
        have hcg := own_cell S.T.own (gridV_at hri hpi)
        have hpl := S.g1 i p hpi
        have hrl := hrr.out r (List.mem_of_getElem? hri)
        have ct := texts_any K.tx (n := i) K.c0 (by omega) (some ⟨p.1, 0, none⟩) r.length p.2
          (fun j f b hf hb => by
            obtain ⟨r', p', _, hp', rfl⟩ := K.ent j f hf
            have e4 : p'.1 = b := by simpa [Value.ownBlock] using hb
            have := S.g1 j p' hp'
            omega)
          (fun b hb => by
            have e4 : p.1 = b := by simpa [Value.ownBlock] using hb
            subst e4
            refine ⟨by omega, by omega, fun h => by have := K.row _ h; omega, rfl, fun j f hf hb' => ?_⟩
            obtain ⟨r', p', _, hp', rfl⟩ := K.ent j f hf
            have e5 : p'.1 = p.1 := by simpa [Value.ownBlock] using hb'
            have hji : j < i := by have := (List.getElem?_eq_some_iff.1 hf).1; have := K.len; omega
            exact S.T.un j i p' p (by omega) hp' hpi e5)
          (by have := K.len; omega) (by omega)
        have HS := Lib.hid (And.intro K (And.intro S (And.intro hri (And.intro hpi hsz))))
        clear K S HI hri hpi hsz hpl
        go_wp2_with fail
        refine ct.mono ?_
        clear ct
        rintro e w9 ⟨rfl, A', c', hT, hC, hL⟩
        have HF : Hid (∃ cs A c es, Told w w9 w8.heap.size cs A c ls gs (w8.heap.size + 1) (i + 1) es ∧ ColSt w w9 (some ⟨gO, 0, none⟩) lc ls gs w1.heap.size w2.heap.size (.slice aA (wid ls).length aC) (.slice bA (linesOf ls).length bC) ∧ w8.heap.size + 1 ≤ w9.heap.size) := by
          refine ⟨_, A', c', _, HS.out.1.step HS.out.2.2.1 HS.out.2.2.2.1 HS.out.2.2.2.2 hT hL, HS.out.2.1.chg hC q2 (fun b hb => (qb.out b hb).2) (fun k hk => ?_), Nat.le_trans HS.out.2.2.2.2 hC.size⟩
          rcases hk with rfl | hk
          · exact Nat.le_refl _
          · have := HS.out.1.row k hk.symm; omega
        clear hT hC hL HS hcg
        go_wp2
        go_roundg (gk - 1)
        case measure => omega
        case rel => exact ⟨i + 1, by omega, by go_num, HF.out⟩
      · obtain rfl : i = ls.length := by omega
        obtain ⟨cs, A0, c0, es, K, S, hsz⟩ := HI.out
        have ga : ∀ b, (Value.slice aA (wid ls).length aC).ownBlock = some b → w1.heap.size ≤ b ∧ b < w2.heap.size := fun b hb => ⟨(S.A.lt b hb).1, S.a2 b hb⟩
        have ci := ints_any (IntB.tx_new K.tx.hb K.tx.wB K.tx.tab K.tx.tabB K.tx.bkB K.tx.hbk K.c2) (n := ls.length) K.c0 (by omega) aA (wid ls).length aC (fun _ _ _ h => by simp at h)
          (fun b hb => ⟨by have := ga b hb; omega, by have := ga b hb; omega, (by intro h; cases h), rfl, fun _ _ h => by simp at h⟩) (by simp) (by omega)
        have HS := Lib.hid (And.intro K (And.intro S (And.intro hsz ga)))
        clear K S HI hsz ga
        go_wp2_with fail
        refine ci.mono ?_
        clear ci
        rintro e wA ⟨rfl, A2, c2, I2, C2, L2⟩
        have K := HS.out.1
        have hcz : 0 < cs.size ∧ 3 < cs.size := ⟨(Array.getElem?_eq_some_iff.1 K.c0).1, (Array.getElem?_eq_some_iff.1 K.tx.c3).1⟩
        have rT : ∀ b, Rel A0 c0 es b → b < wr.heap.size ∧ b ≠ w8.heap.size ∧ ((Value.slice A0 es.length c0).ownBlock = some b ∨ b < w1.heap.size) := fun b hb => by
          rcases hb with hb | ⟨j, e, he, hb | hb⟩
          · have h1 := K.row b hb
            exact ⟨(K.tx.row.lt b hb).2, by omega, .inl hb⟩
          · obtain ⟨r', p', _, hp', rfl⟩ := K.ent j e he
            have e4 : p'.1 = b := by simpa [Value.ownBlock] using hb
            have := HS.out.2.1.g1 j p' hp'
            have := HS.out.2.2.1
            exact ⟨by omega, by omega, .inr (by omega)⟩
          · obtain ⟨r', p', _, hp', rfl⟩ := K.ent j e he
            cases hb
        have T2 := K.tx.turn I2.hb I2.tab I2.hbk (by rw [Array.getElem?_setIfInBounds_ne (by omega), Array.getElem?_setIfInBounds_ne (by omega)]; exact K.tx.c3) (fun b hb => C2.block b (rT b hb).1 (fun h => by
          rcases h with h | h
          · exact (rT b hb).2.1 h
          · cases h))
        have S2' := HS.out.2.1.chg C2 q2 (fun b hb => (qb.out b hb).2) (fun k hk => by
          rcases hk with rfl | hk
          · exact Nat.le_refl _
          · cases hk)
        have l2 : ∀ b, (Value.slice A2 1 c2).ownBlock = some b → wr.heap.size ≤ b ∧ b < wA.heap.size := fun b hb => by
          refine ⟨?_, (I2.row.lt b hb).2⟩
          rcases L2 b hb with h | h
          · cases h
          · exact h
        have hA2 := C2.size
        have ct := texts_any T2 (n := ls.length + 1) (by rw [Array.getElem?_setIfInBounds_ne (by omega), Array.getElem?_setIfInBounds_self_of_lt hcz.1]) (by omega) bA (linesOf ls).length bC
          (fun j f b hf hb => by have := (rT b (.inr ⟨j, f, hf, .inl hb⟩)).1; omega)
          (fun b hb => by
            have h1 := qb.out b hb
            have h2 := HS.out.2.2.1
            refine ⟨by omega, by omega, fun h => by have := K.row b h; omega, rfl, fun j f hf hb' => ?_⟩
            obtain ⟨r', p', _, hp', rfl⟩ := K.ent j f hf
            have e4 : p'.1 = b := by simpa [Value.ownBlock] using hb'
            have := HS.out.2.1.g1 j p' hp'
            omega)
          (by have := K.len; omega) (by omega)
        have H2 := Lib.hid (And.intro I2 (And.intro S2' (And.intro rT (And.intro l2 hcz))))
        clear K I2 C2 L2 rT T2 S2' l2 hcz
        go_wp2_with fail
        refine ct.mono ?_
        clear ct
        rintro e wB ⟨rfl, A3, c3, T3, C3, L3⟩
        obtain ⟨I2, S2', rT, l2, hcz⟩ := H2.out
        have K := HS.out.1
        have ga := HS.out.2.2.2
        have S3 := S2'.chg C3 q2 (fun b hb => (qb.out b hb).2) (fun k hk => by
          rcases hk with rfl | hk
          · exact Nat.le_refl _
          · have := K.row k hk.symm; omega)
        have I3 := I2.turn T3.hb T3.tab T3.hbk (by rw [Array.getElem?_setIfInBounds_ne (by omega), Array.getElem?_setIfInBounds_ne (by omega)]; exact I2.c3) (fun b hb => C3.block b (by
            rcases hb with hb | ⟨j, e, he, hb | hb⟩
            · exact (l2 b hb).2
            · match j, he with
              | 0, he => simp at he; subst he; have := ga b hb; have := HS.out.2.2.1; omega
              | j + 1, he => simp at he
            · match j, he with
              | 0, he => simp at he; subst he; cases hb
              | j + 1, he => simp at he) (fun h => by
            have hK : ∀ x, (Value.slice A0 es.length c0).ownBlock = some x → w8.heap.size + 1 ≤ x ∧ x < wr.heap.size := fun x hx => ⟨K.row x hx, (K.tx.row.lt x hx).2⟩
            have hsz := HS.out.2.2.1
            rcases hb with hb | ⟨j, e, he, hb | hb⟩
            · have h1 := l2 b hb
              rcases h with h | h
              · omega
              · have := hK b h.symm; omega
            · match j, he with
              | 0, he =>
                simp at he
                subst he
                have h1 := ga b hb
                rcases h with h | h
                · omega
                · have := hK b h.symm; omega
              | j + 1, he => simp at he
            · match j, he with
              | 0, he => simp at he; subst he; cases hb
              | j + 1, he => simp at he))
        have hap : ∀ b, Rel A3 c3 (es ++ [⟨.slice bA (linesOf ls).length bC, .slice none 0 0, ls.length + 1 + 1, (linesOf ls).length⟩]) b → ¬ Rel A2 c2 ([] ++ [⟨.slice aA (wid ls).length aC, .slice none 0 0, ls.length + 1, (wid ls).length⟩]) b := fun b h1 h2 => by
          have hK : ∀ x, (Value.slice A0 es.length c0).ownBlock = some x → w8.heap.size + 1 ≤ x ∧ x < wr.heap.size := fun x hx => ⟨K.row x hx, (K.tx.row.lt x hx).2⟩
          have hsz := HS.out.2.2.1
          have k2 : (wr.heap.size ≤ b ∧ b < wA.heap.size) ∨ (w1.heap.size ≤ b ∧ b < w2.heap.size) := by
            rcases h2 with hb | ⟨j, e, he, hb | hb⟩
            · exact .inl (l2 b hb)
            · match j, he with
              | 0, he => simp at he; subst he; exact .inr (ga b hb)
              | j + 1, he => simp at he
            · match j, he with
              | 0, he => simp at he; subst he; cases hb
              | j + 1, he => simp at he
          have k1 : (w8.heap.size + 1 ≤ b ∧ b < wr.heap.size) ∨ wA.heap.size ≤ b ∨ b < w1.heap.size ∨ (w2.heap.size ≤ b ∧ b < w8.heap.size) := by
            rcases h1 with hb | ⟨j, e, he, hb⟩
            · rw [List.length_append, List.length_singleton] at hb
              rcases L3 b hb with h | h
              · exact .inl (hK b h)
              · exact .inr (.inl h)
            · by_cases hj : j < es.length
              · rw [List.getElem?_append_left hj] at he
                rcases (rT b (.inr ⟨j, e, he, hb⟩)).2.2 with h | h
                · exact .inl (hK b h)
                · exact .inr (.inr (.inl h))
              · rw [List.getElem?_append_right (by omega)] at he
                obtain ⟨g1, g2⟩ := List.getElem?_eq_some_iff.1 he
                simp at g1 g2
                subst g2
                rcases hb with hb | hb
                · exact .inr (.inr (.inr (qb.out b hb)))
                · cases hb
          omega
        have hfT : Fl w.heap.size wB (es ++ [⟨.slice bA (linesOf ls).length bC, .slice none 0 0, ls.length + 1 + 1, (linesOf ls).length⟩]) 0 := fun j e he => by
          by_cases hj : j < es.length
          · rw [List.getElem?_append_left hj] at he
            obtain ⟨r', p', hr', hp', rfl⟩ := K.ent j e he
            obtain ⟨v', rfl, ho⟩ := own_take (S3.T.row j r' p' hr' hp') (j := r'.length) (by omega)
            exact ⟨_, ho, fun h => absurd h (by omega)⟩
          · rw [List.getElem?_append_right (by omega)] at he
            obtain ⟨g1, g2⟩ := List.getElem?_eq_some_iff.1 he
            simp at g1 g2
            subst g2
            exact ⟨_, own_mono S3.B2 (by omega), fun h => absurd h (by omega)⟩
        have hfI : IntB.Fl w.heap.size wB ([] ++ [⟨.slice aA (wid ls).length aC, .slice none 0 0, ls.length + 1, (wid ls).length⟩]) 0 := fun j e he => by
          match j, he with
          | 0, he => simp at he; subst he; exact ⟨_, own_mono S3.A q0, fun h => absurd h (by omega)⟩
          | j + 1, he => simp at he
        have hnn : NoneOf ((((cs.setIfInBounds 0 (.int .i64 ((ls.length + 1 : Nat) : Int))).setIfInBounds 2 (.slice A2 (([] : List Ent).length + 1) c2)).setIfInBounds 0 (.int .i64 ((ls.length + 1 + 1 : Nat) : Int))).setIfInBounds 3 (.slice A3 (es.length + 1) c3)) := fun k hk => by
          rw [Array.getElem?_setIfInBounds_ne (by omega), Array.getElem?_setIfInBounds_ne (by omega), Array.getElem?_setIfInBounds_ne (by omega), Array.getElem?_setIfInBounds_ne (by omega)]
          exact K.cn k hk
        have ca := apart_any ⟨T3.none, I3, hap⟩ hfT hfI hnn
          (fun j e he => by
            by_cases hj : j < es.length
            · rw [List.getElem?_append_left hj] at he
              obtain ⟨r', p', _, _, rfl⟩ := K.ent j e he
              rfl
            · rw [List.getElem?_append_right (by omega)] at he
              obtain ⟨g1, g2⟩ := List.getElem?_eq_some_iff.1 he
              simp at g1 g2
              subst g2
              rfl)
          (fun j e he => by
            match j, he with
            | 0, he => simp at he; subst he; rfl
            | j + 1, he => simp at he)
        have HCA := Lib.hid ca
        clear ca hap hfT hfI hnn I2 S2' rT l2 hcz K ga S3 I3 T3 C3 L3 H2 HS
        go_wp2_with fail
        refine HCA.out.mono ?_
        rintro e wC ⟨rfl, hbC⟩
        have HBC := Lib.hid hbC
        clear hbC HCA
        go_wp2
        go_ret
        exact ⟨rfl, HBC.out⟩
theorem tablesColumns_core (v : Value) (ls : List (List ByteArray)) (m : Int) (w : World) (_hm : w.cell? ⟨0, 0, none⟩ = some (.int .i64 m)) (ht : Tab w) (h : Grid w w.heap.size v ls) (hl : ls.length ≤ 140737488355328) (hr : ∀ r ∈ ls, r.length ≤ 140737488355328) (hx : ∀ r ∈ ls, ∀ s ∈ r, s.size ≤ 140737488355328) :
    Calls Tryz.prog 3 #[v] w fun e w' => e = .returned (.bool true) ∧ Below w.heap.size w w' := tablesColumns_any v ls w ht h hl hr hx
end Go.Proofs.YtkfffoolpdilnaaGreatDoor
