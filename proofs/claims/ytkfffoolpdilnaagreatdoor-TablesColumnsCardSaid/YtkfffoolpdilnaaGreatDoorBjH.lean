/-
  Walks: a Book's lists of ints: all grown: the walk.
-/
import Derived.Test.YtkfffoolpdilnaaGreatDoorBjI
namespace Go.Proofs.YtkfffoolpdilnaaGreatDoor.IntB
open Go.RowKit Go.Bd
set_option maxRecDepth 100000 in
set_option maxHeartbeats 4000000 in
theorem growInt_any {O : Nat → Option Obj} {B : Nat} {w W : World} {bk : Nat} {cs : Array Value} {A : Option Addr} {c : Nat} {es : List Ent} (hs : TxSt O B w W bk cs A c es) (hf : Fl B W es es.length) :
    Calls Tryz.prog 50 #[.pointer (some ⟨bk, 0, none⟩)] W fun e W' => e = .returned (.tuple #[]) ∧ ∃ es', es'.length = es.length ∧ TxSt O B w W' bk cs A c es' ∧ Gl B W' bk A c es' es'.length := by
  obtain ⟨m, hm⟩ : ∃ m, es.length = m := ⟨_, rfl⟩
  have hgl0 : Gl B W bk A c es 0 := fun j e he => by
    obtain ⟨xs, h1, h2⟩ := hf j e he
    refine ⟨fun h => absurd h (by omega), fun _ => ?_⟩
    rw [← h2 (List.getElem?_eq_some_iff.1 he).1]
    exact h1
  have HS := Lib.hid (And.intro hs (And.intro hgl0 hm))
  have hm1 : m ≤ 1000000 := by rw [← hm]; exact hs.sm.1
  rw [hm]
  clear hs hf hgl0 hm
  go_enter Tryz.func50, Tryz.ntmps50
  go_wp2
  go_loopg [2] m (fun q i wr => ∃ (k : Nat) (es : List Ent), k + q = m ∧ i = .int .i64 (k : Int) ∧ Hid (TxSt O B w wr bk cs A c es ∧ Gl B wr bk A c es k ∧ es.length = m))
  case atStart => exact ⟨0, es, by omega, rfl, HS.out⟩
  case round =>
    clear HS
    obtain ⟨k, es, hk, rfl, HR⟩ := hrel
    obtain ⟨gO, hgO⟩ : ∃ x, x = gk := ⟨_, rfl⟩
    subst hgO
    obtain ⟨wO, hwO⟩ : ∃ x, x = wr := ⟨_, rfl⟩
    subst hwO
    have HM := Lib.hid HR.out.2.2
    have b3 := (HR.out.1.hbk.cell 2).trans HR.out.1.c3
    rw [HM.out] at b3
    by_cases hlt : k < m
    · obtain ⟨e, he⟩ : ∃ x, es[k]? = some x := ⟨_, List.getElem?_eq_getElem (by rw [HM.out]; exact hlt)⟩
      have hrow := HR.out.1.row
      rw [HM.out] at hrow
      rcases hrow.2 with ⟨_, h0⟩ | ⟨tr, tc, cur, hv, _⟩
      · omega
      injection hv with e1 e2 e3
      subst e1
      subst e3
      have r0 := hrow.cells (g := tr) rfl (k * 3 + 0) _ (flat_at he rfl)
      have r1 := hrow.cells (g := tr) rfl (k * 3 + 1) _ (flat_at he rfl)
      have r2 := hrow.cells (g := tr) rfl (k * 3 + 2) _ (flat_at he rfl)
      rw [addr_add] at r0 r1 r2
      rw [Nat.add_zero] at r0
      have ho0 := (HR.out.2.1 k e he).2 (Nat.le_refl _)
      obtain ⟨vA, vc, hev, hvc⟩ := own_slice ho0
      obtain ⟨hen, hel, lA, ll, lc, hlg⟩ := HR.out.1.sm.2 k e he
      rw [hev] at r0
      rw [hlg] at r1
      have HEV := Lib.hid hev
      have hst0 : Hid (In O B w bk cs (some ⟨tr, 0, none⟩) c es k e wO.heap.size #[.slice vA e.len vc, .slice lA ll lc, .int .i64 (e.n : Int)] 0 (.slice vA e.len vc) (wO.alloc (.cells #[.slice vA e.len vc, .slice lA ll lc, .int .i64 (e.n : Int)] 91))) := by
        have hch := (Chg.refl wO (fun _ => False)).alloc (.cells #[.slice vA e.len vc, .slice lA ll lc, .int .i64 (e.n : Int)] 91)
        refine ⟨HR.out.1.chg hch (fun _ h => h.elim) (fun h => h) (fun _ _ h => h), he, ⟨vA, vc, hev, fun h0 => by obtain ⟨g, cap, e1, _⟩ := own_some ho0 h0; rw [hev] at e1; injection e1 with e1; exact ⟨g, e1⟩⟩, fun j f hf => ⟨fun hj => ((HR.out.2.1 j f hf).1 hj).chg hch (fun _ _ h => h) (fun _ _ _ h => h), fun hj => hch.owns ((HR.out.2.1 j f hf).2 (by omega)) (fun _ _ h => h)⟩, fun j f g cap hf hj hl => ?_, ?_, .inl (by rw [hev]), fun j f b hf hb => ?_, fun b hb i hi => ?_, Holds.new wO _ _, by simp, HR.out.1.hbk.lt, fun b o ho => (Array.getElem?_eq_some_iff.1 (HR.out.1.kp b o ho)).1, fun b hb => (HR.out.1.row.lt b hb).2⟩
        · obtain ⟨g2, cap2, e1, e2, _⟩ := ((HR.out.2.1 j f hf).1 hj).new
          rw [hl] at e1
          injection e1 with e1
          have e4 : g = g2 := by simpa using e1
          rw [e4]
          exact World.block_lt_of_cell? _ _ (e2 0 (by omega))
        · have h := hch.owns ho0 (fun _ _ h => h)
          rw [hev] at h
          exact h
        · by_cases hj : j < k
          · exact ((HR.out.2.1 j f hf).1 hj).lt b hb
          · exact ((HR.out.2.1 j f hf).2 (by omega)).lt b hb |>.2
        · have h := hch.owns ho0 (fun _ _ h => h)
          obtain ⟨g, cap, e1, _⟩ := own_some h (by omega)
          rw [e1] at h hb
          have e4 : g = b := by simpa [Value.ownBlock] using hb
          subst e4
          exact own_cell h (by rw [List.getElem?_replicate, if_pos hi])
      clear he hrow ho0 hev HR
      go_wp2
      go_loopg [4, 5] 40 (fun q L vi wi => ∃ (i : Nat) (LA : Option Addr) (lc' : Nat), i + q = 40 ∧ vi = .int .i64 (i : Int) ∧ L = .slice LA (e.len + i) lc' ∧ Hid (In O B w bk cs (some ⟨tr, 0, none⟩) c es k e wO.heap.size #[.slice vA e.len vc, .slice lA ll lc, .int .i64 (e.n : Int)] i (.slice LA (e.len + i) lc') wi))
      case atStart => exact ⟨0, vA, vc, by omega, rfl, rfl, hst0.out⟩
      case round =>
        clear hst0
        obtain ⟨i, LA, lc', hi, rfl, rfl, HI⟩ := hrel
        by_cases hil : i < 40
        · have y2 : wr.cell? ⟨wO.heap.size, 2, none⟩ = some (.int .i64 (e.n : Int)) := HI.out.hh.cell 2
          go_wp2_with fail
          refine (markInt_any e.n (by omega) wr HI.out.tx.tab).mono ?_
          rintro e' w2 ⟨rfl, hb2⟩
          have hch := Chg.below hb2 (fun _ => False)
          have hown := hch.owns HI.out.own (fun _ _ h => h)
          have hBs : B ≤ w2.heap.size := Nat.le_trans (Nat.le_trans HI.out.tx.wB HI.out.tx.hb.size) hch.size
          have HH := Lib.hid (And.intro hch (And.intro hown hBs))
          clear hb2 hch hown hBs
          go_wp2_with (at_builtin; refine wpList_append_stays _ rfl _ _ 25 rfl B 3 (.int .i64 0) 8 Tryz.underlying25 int_inf2 rfl _ (e.len + i) _ rfl (HH.out.2.1.alloc _) _ 1 (.int .i64 (imark e.n)) rfl (by simp) rfl (by unfold maxLen; omega) (by omega) (by have := HH.out.2.2; simp; omega) ?_)
          intro g cap w3 ho3 hg3 ha3 hs3
          have HI3 : Hid (In O B w bk cs (some ⟨tr, 0, none⟩) c es k e wO.heap.size #[.slice vA e.len vc, .slice lA ll lc, .int .i64 (e.n : Int)] (i + 1) (.slice (some ⟨g, 0, none⟩) (e.len + i + 1) cap) w3) := by
            have hc3 : Chg wr w3 (fun b => some b = (Value.slice LA (e.len + i) lc').ownBlock) :=
              ((HH.out.1.mono (fun _ _ h => h.elim)).alloc _).trans (Chg.grown hg3) (fun _ _ h => h)
            refine HI.out.step hc3 ho3 (ha3.imp (fun h => h) (fun h => ?_)) hs3
            have := HH.out.1.size
            rw [h]; simp; omega
          clear ho3 hg3 ha3 hs3 HI HH
          go_wp2
          go_roundg (gk - 1)
          case measure => omega
          case rel => exact ⟨i + 1, _, cap, by omega, by go_num, by rfl, HI3.out⟩
        · obtain rfl : i = 40 := by omega
          obtain ⟨g, cap, hL, hT, hG⟩ := HI.out.done' rfl
          have b3' := (HI.out.tx.hbk.cell 2).trans HI.out.tx.c3
          rw [HM.out] at b3'
          injection hL with e1 _ e3
          subst e1
          subst e3
          have rr := HI.out.tx.row.cells (g := tr) rfl (k * 3 + 1) _ (flat_at HI.out.he rfl)
          rw [addr_add] at rr
          have rf : wr.frozen? ⟨tr, k * 3 + 1, none⟩ = false := by
            rcases HI.out.tx.row.2 with ⟨h, _⟩ | ⟨g', cap', cur', hv', _, hh', _⟩
            · cases h
            · injection hv' with e1
              have e4 : tr = g' := by simpa using e1
              subst e4
              exact frozen_of_row _ _ _ _ _ hh'
          have HF := Lib.hid (And.intro hT (And.intro hG (show (es.set k { e with lg := .slice (some ⟨g, 0, none⟩) (e.len + 40) lc' }).length = m by rw [List.length_set]; exact HM.out)))
          clear HI hT hG
          go_wp2
          go_roundg (gO - 1)
          case measure => omega
          case rel => exact ⟨k + 1, _, by omega, by go_num, HF.out⟩
    · obtain rfl : k = m := by omega
      go_wp2
      go_end0
      exact ⟨rfl, es, HM.out, HR.out.1, by rw [HM.out]; exact HR.out.2.1⟩
end Go.Proofs.YtkfffoolpdilnaaGreatDoor.IntB
