/-
  Walks: a Book of texts and ints: all its lists are apart.
-/
import Derived.Test.YtkfffoolpdilnaaGreatDoorBkS
import Derived.Test.YtkfffoolpdilnaaGreatDoorBk0
namespace Go.Proofs.YtkfffoolpdilnaaGreatDoor
open Go.RowKit Go.Bd
/-- the kinds of which the Book has no list -/
def NoneOf (cs : Array Value) : Prop := ∀ i, i = 1 ∨ (4 ≤ i ∧ i ≤ 17) → cs[i]? = some (.slice none 0 0)
theorem NoneOf.cell {cs : Array Value} {W : World} {bk : Nat} {t : TypeId} (h : NoneOf cs) (hh : Holds W bk t cs) {i : Nat} (hi : i = 1 ∨ (4 ≤ i ∧ i ≤ 17)) : W.cell? ⟨bk, i, none⟩ = some (.slice none 0 0) := (hh.cell i).trans (h i hi)
set_option maxRecDepth 100000 in
set_option maxHeartbeats 4000000 in
theorem apart_any {B : Nat} {w W : World} {bk : Nat} {cs : Array Value} {A A2 : Option Addr} {c c2 : Nat} {es js : List Ent} (h : S2 B w W bk cs A c es A2 c2 js) (hT : Fl B W es 0) (hI : IntB.Fl B W js 0) (hz : NoneOf cs)
    (nT : ∀ (i : Nat) e, es[i]? = some e → e.lg.ownBlock = none) (nI : ∀ (i : Nat) e, js[i]? = some e → e.lg.ownBlock = none) :
    Calls Tryz.prog 16 #[.pointer (some ⟨bk, 0, none⟩)] W fun e W' => e = .returned (.bool true) ∧ Below B w W' := by
  have HH := Lib.hid h.T.hbk
  have HZ := Lib.hid hz
  have HS := Lib.hid (And.intro h (And.intro hT (And.intro hI (And.intro nT nI))))
  clear h hT hI hz nT nI
  go_enter Tryz.func16, Tryz.ntmps16
  go_wp2_with fail
  refine (fillByte_none bk _ (HZ.out.cell HH.out (by omega))).mono ?_
  rintro e w' ⟨rfl, rfl⟩
  go_wp2_with fail
  refine (fillInt2 HS.out.1 HS.out.2.2.1 (rel_fl HS.out.1.T HS.out.2.1 HS.out.2.2.2.1)).mono ?_
  rintro e W1 ⟨rfl, h1, h2, h3⟩
  have HS1 := Lib.hid (And.intro h1 (And.intro (HS.out.2.1.move (A := A) (c := c) h3) (And.intro h2 HS.out.2.2.2)))
  replace HH := Lib.hid h1.T.hbk
  clear HS h1 h2 h3
  go_wp2_with fail
  refine (fillText2 HS1.out.1 HS1.out.2.1 (IntB.rel_fl HS1.out.1.I HS1.out.2.2.1 HS1.out.2.2.2.2)).mono ?_
  rintro e W2 ⟨rfl, h1, h2, h3⟩
  have HS2 := Lib.hid (And.intro h1 (And.intro h2 (And.intro (HS1.out.2.2.1.move (A := A2) (c := c2) h3) HS1.out.2.2.2)))
  replace HH := Lib.hid h1.T.hbk
  clear HS1 h1 h2 h3
  go_wp2_with fail
  refine (fillFault_none bk _ (HZ.out.cell HH.out (by omega))).mono ?_
  rintro e w' ⟨rfl, rfl⟩
  go_wp2_with fail
  refine (fillLine_none bk _ (HZ.out.cell HH.out (by omega))).mono ?_
  rintro e w' ⟨rfl, rfl⟩
  go_wp2_with fail
  refine (fillSource_none bk _ (HZ.out.cell HH.out (by omega))).mono ?_
  rintro e w' ⟨rfl, rfl⟩
  go_wp2_with fail
  refine (fillAttr_none bk _ (HZ.out.cell HH.out (by omega))).mono ?_
  rintro e w' ⟨rfl, rfl⟩
  go_wp2_with fail
  refine (fillDiag_none bk _ (HZ.out.cell HH.out (by omega))).mono ?_
  rintro e w' ⟨rfl, rfl⟩
  go_wp2_with fail
  refine (fillSpan_none bk _ (HZ.out.cell HH.out (by omega))).mono ?_
  rintro e w' ⟨rfl, rfl⟩
  go_wp2_with fail
  refine (fillCell_none bk _ (HZ.out.cell HH.out (by omega))).mono ?_
  rintro e w' ⟨rfl, rfl⟩
  go_wp2_with fail
  refine (fillRow_none bk _ (HZ.out.cell HH.out (by omega))).mono ?_
  rintro e w' ⟨rfl, rfl⟩
  go_wp2_with fail
  refine (fillBlock_none bk _ (HZ.out.cell HH.out (by omega))).mono ?_
  rintro e w' ⟨rfl, rfl⟩
  go_wp2_with fail
  refine (fillChapter_none bk _ (HZ.out.cell HH.out (by omega))).mono ?_
  rintro e w' ⟨rfl, rfl⟩
  go_wp2_with fail
  refine (fillPlace_none bk _ (HZ.out.cell HH.out (by omega))).mono ?_
  rintro e w' ⟨rfl, rfl⟩
  go_wp2_with fail
  refine (fillLocator_none bk _ (HZ.out.cell HH.out (by omega))).mono ?_
  rintro e w' ⟨rfl, rfl⟩
  go_wp2_with fail
  refine (fillEntry_none bk _ (HZ.out.cell HH.out (by omega))).mono ?_
  rintro e w' ⟨rfl, rfl⟩
  go_wp2_with fail
  refine (fillFile_none bk _ (HZ.out.cell HH.out (by omega))).mono ?_
  rintro e w' ⟨rfl, rfl⟩
  go_wp2_with fail
  refine (growByte_none bk _ (HZ.out.cell HH.out (by omega))).mono ?_
  rintro e w' ⟨rfl, rfl⟩
  go_wp2_with fail
  refine (growInt2 HS2.out.1 HS2.out.2.2.1 (rel_fl HS2.out.1.T HS2.out.2.1 HS2.out.2.2.2.1)).mono ?_
  rintro e W3 ⟨rfl, js', h1, h2, h3⟩
  have HS3 := Lib.hid (And.intro h1 (And.intro (HS2.out.2.1.move (A := A) (c := c) h3) h2))
  replace HH := Lib.hid h1.T.hbk
  clear HS2 h1 h2 h3
  go_wp2_with fail
  refine (growText2 HS3.out.1 HS3.out.2.1 (IntB.rel_gl HS3.out.1.I HS3.out.2.2)).mono ?_
  rintro e W4 ⟨rfl, es', h1, h2, h3⟩
  have HS4 := Lib.hid (And.intro h1 (And.intro h2 (HS3.out.2.2.move h3)))
  replace HH := Lib.hid h1.T.hbk
  clear HS3 h1 h2 h3
  go_wp2_with fail
  refine (growFault_none bk _ (HZ.out.cell HH.out (by omega))).mono ?_
  rintro e w' ⟨rfl, rfl⟩
  go_wp2_with fail
  refine (growLine_none bk _ (HZ.out.cell HH.out (by omega))).mono ?_
  rintro e w' ⟨rfl, rfl⟩
  go_wp2_with fail
  refine (growSource_none bk _ (HZ.out.cell HH.out (by omega))).mono ?_
  rintro e w' ⟨rfl, rfl⟩
  go_wp2_with fail
  refine (growAttr_none bk _ (HZ.out.cell HH.out (by omega))).mono ?_
  rintro e w' ⟨rfl, rfl⟩
  go_wp2_with fail
  refine (growDiag_none bk _ (HZ.out.cell HH.out (by omega))).mono ?_
  rintro e w' ⟨rfl, rfl⟩
  go_wp2_with fail
  refine (growSpan_none bk _ (HZ.out.cell HH.out (by omega))).mono ?_
  rintro e w' ⟨rfl, rfl⟩
  go_wp2_with fail
  refine (growCell_none bk _ (HZ.out.cell HH.out (by omega))).mono ?_
  rintro e w' ⟨rfl, rfl⟩
  go_wp2_with fail
  refine (growRow_none bk _ (HZ.out.cell HH.out (by omega))).mono ?_
  rintro e w' ⟨rfl, rfl⟩
  go_wp2_with fail
  refine (growBlock_none bk _ (HZ.out.cell HH.out (by omega))).mono ?_
  rintro e w' ⟨rfl, rfl⟩
  go_wp2_with fail
  refine (growChapter_none bk _ (HZ.out.cell HH.out (by omega))).mono ?_
  rintro e w' ⟨rfl, rfl⟩
  go_wp2_with fail
  refine (growPlace_none bk _ (HZ.out.cell HH.out (by omega))).mono ?_
  rintro e w' ⟨rfl, rfl⟩
  go_wp2_with fail
  refine (growLocator_none bk _ (HZ.out.cell HH.out (by omega))).mono ?_
  rintro e w' ⟨rfl, rfl⟩
  go_wp2_with fail
  refine (growEntry_none bk _ (HZ.out.cell HH.out (by omega))).mono ?_
  rintro e w' ⟨rfl, rfl⟩
  go_wp2_with fail
  refine (growFile_none bk _ (HZ.out.cell HH.out (by omega))).mono ?_
  rintro e w' ⟨rfl, rfl⟩
  go_wp2_with fail
  refine (lookByte_none bk _ (HZ.out.cell HH.out (by omega))).mono ?_
  rintro e w' ⟨rfl, rfl⟩
  go_wp2_with fail
  refine (IntB.lookInt_any HS4.out.1.I HS4.out.2.2).mono ?_
  rintro e W5 ⟨rfl, hc⟩
  have hT5 := HS4.out.1.T.chg hc (fun _ h => h.elim) (fun h => h) (fun _ _ h => h)
  have hG5 : Gl B W5 bk A c es' es'.length := fun j e hj => ⟨fun hk => ((HS4.out.2.1 j e hj).1 hk).chg hc (fun _ _ h => h) (fun _ _ _ h => h), fun hk => hc.owns ((HS4.out.2.1 j e hj).2 hk) (fun _ _ h => h)⟩
  have HS5 := Lib.hid (And.intro hT5 hG5)
  replace HH := Lib.hid hT5.hbk
  clear HS4 hT5 hG5 hc
  go_wp2_with fail
  refine (lookText_any HS5.out.1 HS5.out.2).mono ?_
  rintro e W6 ⟨rfl, hc⟩
  have hT6 := HS5.out.1.chg hc (fun _ h => h.elim) (fun h => h) (fun _ _ h => h)
  have HB := Lib.hid hT6.hb
  replace HH := Lib.hid hT6.hbk
  clear HS5 hT6 hc
  go_wp2_with fail
  refine (lookFault_none bk _ (HZ.out.cell HH.out (by omega))).mono ?_
  rintro e w' ⟨rfl, rfl⟩
  go_wp2_with fail
  refine (lookLine_none bk _ (HZ.out.cell HH.out (by omega))).mono ?_
  rintro e w' ⟨rfl, rfl⟩
  go_wp2_with fail
  refine (lookSource_none bk _ (HZ.out.cell HH.out (by omega))).mono ?_
  rintro e w' ⟨rfl, rfl⟩
  go_wp2_with fail
  refine (lookAttr_none bk _ (HZ.out.cell HH.out (by omega))).mono ?_
  rintro e w' ⟨rfl, rfl⟩
  go_wp2_with fail
  refine (lookDiag_none bk _ (HZ.out.cell HH.out (by omega))).mono ?_
  rintro e w' ⟨rfl, rfl⟩
  go_wp2_with fail
  refine (lookSpan_none bk _ (HZ.out.cell HH.out (by omega))).mono ?_
  rintro e w' ⟨rfl, rfl⟩
  go_wp2_with fail
  refine (lookCell_none bk _ (HZ.out.cell HH.out (by omega))).mono ?_
  rintro e w' ⟨rfl, rfl⟩
  go_wp2_with fail
  refine (lookRow_none bk _ (HZ.out.cell HH.out (by omega))).mono ?_
  rintro e w' ⟨rfl, rfl⟩
  go_wp2_with fail
  refine (lookBlock_none bk _ (HZ.out.cell HH.out (by omega))).mono ?_
  rintro e w' ⟨rfl, rfl⟩
  go_wp2_with fail
  refine (lookChapter_none bk _ (HZ.out.cell HH.out (by omega))).mono ?_
  rintro e w' ⟨rfl, rfl⟩
  go_wp2_with fail
  refine (lookPlace_none bk _ (HZ.out.cell HH.out (by omega))).mono ?_
  rintro e w' ⟨rfl, rfl⟩
  go_wp2_with fail
  refine (lookLocator_none bk _ (HZ.out.cell HH.out (by omega))).mono ?_
  rintro e w' ⟨rfl, rfl⟩
  go_wp2_with fail
  refine (lookEntry_none bk _ (HZ.out.cell HH.out (by omega))).mono ?_
  rintro e w' ⟨rfl, rfl⟩
  go_wp2_with fail
  refine (lookFile_none bk _ (HZ.out.cell HH.out (by omega))).mono ?_
  rintro e w' ⟨rfl, rfl⟩
  go_wp2
  go_ret
  exact ⟨rfl, HB.out⟩
end Go.Proofs.YtkfffoolpdilnaaGreatDoor
