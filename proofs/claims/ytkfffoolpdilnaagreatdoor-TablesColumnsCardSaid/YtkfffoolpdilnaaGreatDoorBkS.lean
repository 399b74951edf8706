/-
  Walks: a Book of texts and ints: what each kind's walk keeps of the other's.
-/
import Derived.Test.YtkfffoolpdilnaaGreatDoorBkK
import Derived.Test.YtkfffoolpdilnaaGreatDoorBkL
import Derived.Test.YtkfffoolpdilnaaGreatDoorBkH
import Derived.Test.YtkfffoolpdilnaaGreatDoorBjK
import Derived.Test.YtkfffoolpdilnaaGreatDoorBjL
import Derived.Test.YtkfffoolpdilnaaGreatDoorBjH
namespace Go.Proofs.YtkfffoolpdilnaaGreatDoor
open Go.RowKit Go.Bd
/-- the blocks of a kind's lists -/
def Rel (A : Option Addr) (c : Nat) (es : List Ent) (b : Nat) : Prop := (Value.slice A es.length c).ownBlock = some b ∨ ∃ (i : Nat) (e : Ent), es[i]? = some e ∧ (e.v.ownBlock = some b ∨ e.lg.ownBlock = some b)
theorem owns_eq {W W' : World} {base sz n : Nat} {e : TypeId} {v : Value} {xs : List Value} (ho : W.ownsRow base e sz v n xs) (h : ∀ k, v.ownBlock = some k → W'.heap[k]? = W.heap[k]?) : W'.ownsRow base e sz v n xs := by
  refine ⟨ho.1, ?_⟩
  rcases ho.2 with hn | ⟨g, cap, cur, hv, hg, hh, r⟩
  · exact .inl hn
  · exact .inr ⟨g, cap, cur, hv, hg, (h g (by rw [hv]; rfl)).trans hh, r⟩
open Classical in
/-- what the blocks of R hold now -/
noncomputable def snap (W : World) (R : Nat → Prop) : Nat → Option Obj := fun b => if R b then W.heap[b]? else none
theorem snap_some {W : World} {R : Nat → Prop} {b : Nat} {o : Obj} (h : snap W R b = some o) : R b ∧ W.heap[b]? = some o := by
  unfold snap at h
  split at h
  · exact ⟨‹_›, h⟩
  · cases h
theorem snap_none {W : World} {R : Nat → Prop} {b : Nat} (h : ¬ R b) : snap W R b = none := by
  unfold snap
  rw [if_neg h]
theorem snap_at {W : World} {R : Nat → Prop} {b : Nat} (h : R b) : snap W R b = W.heap[b]? := by
  unfold snap
  rw [if_pos h]
theorem lt_eq {W W' : World} {b : Nat} (h : b < W.heap.size) (he : W'.heap[b]? = W.heap[b]?) : b < W'.heap.size := by
  rw [Array.getElem?_eq_getElem h] at he
  exact (Array.getElem?_eq_some_iff.1 he).1
section
variable {O O' : Nat → Option Obj} {B : Nat} {w W W' : World} {bk : Nat} {cs : Array Value} {A : Option Addr} {c k : Nat} {es : List Ent}
theorem TxSt.reO (h : TxSt O B w W bk cs A c es) (kp : ∀ (b : Nat) o, O' b = some o → W.heap[b]? = some o) (kd : ∀ (b : Nat) o, O' b = some o → b ≠ bk ∧ (Value.slice A es.length c).ownBlock ≠ some b ∧ ∀ (i : Nat) e, es[i]? = some e → e.v.ownBlock ≠ some b)
    (kl : ∀ (i : Nat) e b, es[i]? = some e → e.lg.ownBlock = some b → O' b = none) : TxSt O' B w W bk cs A c es :=
  ⟨h.hb, h.wB, h.tab, h.tabB, h.bkB, h.hbk, h.c3, h.row, h.bkr, h.ap, h.un, kp, kd, kl, h.sm⟩
theorem TxSt.none (h : TxSt O B w W bk cs A c es) : TxSt (fun _ => .none) B w W bk cs A c es := h.reO (fun _ _ h => by cases h) (fun _ _ h => by cases h) (fun _ _ _ _ _ => rfl)
theorem TxSt.snapped (h : TxSt O B w W bk cs A c es) {R : Nat → Prop} (hd : ∀ b, R b → b ≠ bk ∧ ¬ Rel A c es b) : TxSt (snap W R) B w W bk cs A c es :=
  h.reO (fun b o ho => (snap_some ho).2) (fun b o ho => ⟨(hd b (snap_some ho).1).1, fun e => (hd b (snap_some ho).1).2 (.inl e), fun i e he hv => (hd b (snap_some ho).1).2 (.inr ⟨i, e, he, .inl hv⟩)⟩)
    (fun i e b he hl => snap_none fun hr => (hd b hr).2 (.inr ⟨i, e, he, .inr hl⟩))
theorem TxSt.move (h : TxSt O B w W bk cs A c es) (hb : Below B w W') (ht : Tab W') (hbk : Holds W' bk 50 cs) (he : ∀ b, Rel A c es b → W'.heap[b]? = W.heap[b]?) : TxSt (fun _ => .none) B w W' bk cs A c es :=
  ⟨hb, h.wB, ht, h.tabB, h.bkB, hbk, h.c3, owns_eq h.row (fun k hk => he k (.inl hk)), h.bkr, h.ap, h.un, (fun _ _ h => by cases h), (fun _ _ h => by cases h), (fun _ _ _ _ _ => rfl), h.sm⟩
theorem Fl.move (h : Fl B W es k) (he : ∀ b, Rel A c es b → W'.heap[b]? = W.heap[b]?) : Fl B W' es k := fun j e hj => by
  obtain ⟨xs, h1, h2⟩ := h j e hj
  exact ⟨xs, owns_eq h1 (fun b hb => he b (.inr ⟨j, e, hj, .inl hb⟩)), h2⟩
theorem Gl.move (h : Gl B W bk A c es es.length) (he : ∀ b, Rel A c es b → W'.heap[b]? = W.heap[b]?) : Gl B W' bk A c es es.length := fun j e hj => by
  obtain ⟨h1, h2⟩ := h j e hj
  have hlt : j < es.length := (List.getElem?_eq_some_iff.1 hj).1
  refine ⟨fun hk => ?_, fun hk => absurd hk (by omega)⟩
  have g := h1 hlt
  refine ⟨fun b hb i hi => (World.cell?_of_block (he b (.inr ⟨j, e, hj, .inl hb⟩))).trans (g.old b hb i hi), fun b hb => lt_eq (g.lt b hb) (he b (.inr ⟨j, e, hj, .inl hb⟩)), g.sl, ?_⟩
  obtain ⟨gg, cap, e1, e2, e3⟩ := g.new
  exact ⟨gg, cap, e1, fun i hi => (World.cell?_of_block (he gg (.inr ⟨j, e, hj, .inr (by rw [e1]; rfl)⟩))).trans (e2 i hi), e3⟩
theorem rel_fl (h : TxSt O B w W bk cs A c es) (hf : Fl B W es k) (hn : ∀ (i : Nat) e, es[i]? = some e → e.lg.ownBlock = .none) (b : Nat) (hr : Rel A c es b) : b < W.heap.size ∧ b ≠ bk := by
  rcases hr with hr | ⟨i, e, he, hr | hr⟩
  · exact ⟨(h.row.lt b hr).2, fun e => h.bkr (by rw [hr, e])⟩
  · obtain ⟨xs, h1, _⟩ := hf i e he
    exact ⟨(h1.lt b hr).2, fun e' => (h.ap i e he).1 (by rw [hr, e'])⟩
  · rw [hn i e he] at hr; cases hr
theorem rel_gl (h : TxSt O B w W bk cs A c es) (hf : Gl B W bk A c es es.length) (b : Nat) (hr : Rel A c es b) : b < W.heap.size ∧ b ≠ bk := by
  rcases hr with hr | ⟨i, e, he, hr⟩
  · exact ⟨(h.row.lt b hr).2, fun e => h.bkr (by rw [hr, e])⟩
  · have g := (hf i e he).1 (List.getElem?_eq_some_iff.1 he).1
    rcases hr with hr | hr
    · exact ⟨g.lt b hr, fun e' => (h.ap i e he).1 (by rw [hr, e'])⟩
    · obtain ⟨gg, cap, e1, e2, e3, _⟩ := g.new
      rw [e1] at hr
      have e4 : gg = b := by simpa [Value.ownBlock] using hr
      subst e4
      exact ⟨World.block_lt_of_cell? _ _ (e2 0 (by omega)), e3⟩
end
section
variable {O O' : Nat → Option Obj} {B : Nat} {w W W' : World} {bk : Nat} {cs : Array Value} {A : Option Addr} {c k : Nat} {es : List Ent}
theorem IntB.TxSt.reO (h : IntB.TxSt O B w W bk cs A c es) (kp : ∀ (b : Nat) o, O' b = some o → W.heap[b]? = some o) (kd : ∀ (b : Nat) o, O' b = some o → b ≠ bk ∧ (Value.slice A es.length c).ownBlock ≠ some b ∧ ∀ (i : Nat) e, es[i]? = some e → e.v.ownBlock ≠ some b)
    (kl : ∀ (i : Nat) e b, es[i]? = some e → e.lg.ownBlock = some b → O' b = none) : IntB.TxSt O' B w W bk cs A c es :=
  ⟨h.hb, h.wB, h.tab, h.tabB, h.bkB, h.hbk, h.c3, h.row, h.bkr, h.ap, h.un, kp, kd, kl, h.sm⟩
theorem IntB.TxSt.none (h : IntB.TxSt O B w W bk cs A c es) : IntB.TxSt (fun _ => .none) B w W bk cs A c es := h.reO (fun _ _ h => by cases h) (fun _ _ h => by cases h) (fun _ _ _ _ _ => rfl)
theorem IntB.TxSt.snapped (h : IntB.TxSt O B w W bk cs A c es) {R : Nat → Prop} (hd : ∀ b, R b → b ≠ bk ∧ ¬ Rel A c es b) : IntB.TxSt (snap W R) B w W bk cs A c es :=
  h.reO (fun b o ho => (snap_some ho).2) (fun b o ho => ⟨(hd b (snap_some ho).1).1, fun e => (hd b (snap_some ho).1).2 (.inl e), fun i e he hv => (hd b (snap_some ho).1).2 (.inr ⟨i, e, he, .inl hv⟩)⟩)
    (fun i e b he hl => snap_none fun hr => (hd b hr).2 (.inr ⟨i, e, he, .inr hl⟩))
theorem IntB.TxSt.move (h : IntB.TxSt O B w W bk cs A c es) (hb : Below B w W') (ht : Tab W') (hbk : Holds W' bk 50 cs) (he : ∀ b, Rel A c es b → W'.heap[b]? = W.heap[b]?) : IntB.TxSt (fun _ => .none) B w W' bk cs A c es :=
  ⟨hb, h.wB, ht, h.tabB, h.bkB, hbk, h.c3, owns_eq h.row (fun k hk => he k (.inl hk)), h.bkr, h.ap, h.un, (fun _ _ h => by cases h), (fun _ _ h => by cases h), (fun _ _ _ _ _ => rfl), h.sm⟩
theorem IntB.Fl.move (h : IntB.Fl B W es k) (he : ∀ b, Rel A c es b → W'.heap[b]? = W.heap[b]?) : IntB.Fl B W' es k := fun j e hj => by
  obtain ⟨xs, h1, h2⟩ := h j e hj
  exact ⟨xs, owns_eq h1 (fun b hb => he b (.inr ⟨j, e, hj, .inl hb⟩)), h2⟩
theorem IntB.Gl.move (h : IntB.Gl B W bk A c es es.length) (he : ∀ b, Rel A c es b → W'.heap[b]? = W.heap[b]?) : IntB.Gl B W' bk A c es es.length := fun j e hj => by
  obtain ⟨h1, h2⟩ := h j e hj
  have hlt : j < es.length := (List.getElem?_eq_some_iff.1 hj).1
  refine ⟨fun hk => ?_, fun hk => absurd hk (by omega)⟩
  have g := h1 hlt
  refine ⟨fun b hb i hi => (World.cell?_of_block (he b (.inr ⟨j, e, hj, .inl hb⟩))).trans (g.old b hb i hi), fun b hb => lt_eq (g.lt b hb) (he b (.inr ⟨j, e, hj, .inl hb⟩)), g.sl, ?_⟩
  obtain ⟨gg, cap, e1, e2, e3⟩ := g.new
  exact ⟨gg, cap, e1, fun i hi => (World.cell?_of_block (he gg (.inr ⟨j, e, hj, .inr (by rw [e1]; rfl)⟩))).trans (e2 i hi), e3⟩
theorem IntB.rel_fl (h : IntB.TxSt O B w W bk cs A c es) (hf : IntB.Fl B W es k) (hn : ∀ (i : Nat) e, es[i]? = some e → e.lg.ownBlock = .none) (b : Nat) (hr : Rel A c es b) : b < W.heap.size ∧ b ≠ bk := by
  rcases hr with hr | ⟨i, e, he, hr | hr⟩
  · exact ⟨(h.row.lt b hr).2, fun e => h.bkr (by rw [hr, e])⟩
  · obtain ⟨xs, h1, _⟩ := hf i e he
    exact ⟨(h1.lt b hr).2, fun e' => (h.ap i e he).1 (by rw [hr, e'])⟩
  · rw [hn i e he] at hr; cases hr
theorem IntB.rel_gl (h : IntB.TxSt O B w W bk cs A c es) (hf : IntB.Gl B W bk A c es es.length) (b : Nat) (hr : Rel A c es b) : b < W.heap.size ∧ b ≠ bk := by
  rcases hr with hr | ⟨i, e, he, hr⟩
  · exact ⟨(h.row.lt b hr).2, fun e => h.bkr (by rw [hr, e])⟩
  · have g := (hf i e he).1 (List.getElem?_eq_some_iff.1 he).1
    rcases hr with hr | hr
    · exact ⟨g.lt b hr, fun e' => (h.ap i e he).1 (by rw [hr, e'])⟩
    · obtain ⟨gg, cap, e1, e2, e3, _⟩ := g.new
      rw [e1] at hr
      have e4 : gg = b := by simpa [Value.ownBlock] using hr
      subst e4
      exact ⟨World.block_lt_of_cell? _ _ (e2 0 (by omega)), e3⟩
end
/-- texts and ints, apart -/
structure S2 (B : Nat) (w W : World) (bk : Nat) (cs : Array Value) (A : Option Addr) (c : Nat) (es : List Ent) (A2 : Option Addr) (c2 : Nat) (js : List Ent) : Prop where
  T : TxSt (fun _ => none) B w W bk cs A c es
  I : IntB.TxSt (fun _ => none) B w W bk cs A2 c2 js
  ap : ∀ b, Rel A c es b → ¬ Rel A2 c2 js b
section
variable {B : Nat} {w W W' : World} {bk : Nat} {cs : Array Value} {A A2 : Option Addr} {c c2 : Nat} {es js : List Ent}
theorem fillText2 (h : S2 B w W bk cs A c es A2 c2 js) (hf : Fl B W es 0) (hy : ∀ b, Rel A2 c2 js b → b < W.heap.size ∧ b ≠ bk) :
    Calls Tryz.prog 34 #[.pointer (some ⟨bk, 0, none⟩)] W fun e W' => e = .returned (.tuple #[]) ∧ S2 B w W' bk cs A c es A2 c2 js ∧ Fl B W' es es.length ∧ ∀ b, Rel A2 c2 js b → W'.heap[b]? = W.heap[b]? := by
  refine (fillText_any (h.T.snapped (R := Rel A2 c2 js) (fun b hb => ⟨(hy b hb).2, (fun b h1 h2 => h.ap b h2 h1) b hb⟩)) hf).mono ?_
  rintro e W' ⟨he, h1, h2⟩
  have hk : ∀ b, Rel A2 c2 js b → W'.heap[b]? = W.heap[b]? := fun b hb => by
    have h3 := Array.getElem?_eq_getElem (hy b hb).1
    rw [h3]
    exact h1.kp b _ ((snap_at hb).trans h3)
  exact ⟨he, ⟨h1.none, h.I.move h1.hb h1.tab h1.hbk hk, h.ap⟩, h2, hk⟩
theorem growText2 (h : S2 B w W bk cs A c es A2 c2 js) (hf : Fl B W es es.length) (hy : ∀ b, Rel A2 c2 js b → b < W.heap.size ∧ b ≠ bk) :
    Calls Tryz.prog 51 #[.pointer (some ⟨bk, 0, none⟩)] W fun e W' => e = .returned (.tuple #[]) ∧ ∃ es', S2 B w W' bk cs A c es' A2 c2 js ∧ Gl B W' bk A c es' es'.length ∧ ∀ b, Rel A2 c2 js b → W'.heap[b]? = W.heap[b]? := by
  refine (growText_any (h.T.snapped (R := Rel A2 c2 js) (fun b hb => ⟨(hy b hb).2, (fun b h1 h2 => h.ap b h2 h1) b hb⟩)) hf).mono ?_
  rintro e W' ⟨he, es', hl, h1, h2⟩
  have hs : ∀ b, Rel A2 c2 js b → ∃ o, snap W (Rel A2 c2 js) b = some o := fun b hb => ⟨_, (snap_at hb).trans (Array.getElem?_eq_getElem (hy b hb).1)⟩
  have hk : ∀ b, Rel A2 c2 js b → W'.heap[b]? = W.heap[b]? := fun b hb => by
    have h3 := Array.getElem?_eq_getElem (hy b hb).1
    rw [h3]
    exact h1.kp b _ ((snap_at hb).trans h3)
  have hd : ∀ b, Rel A2 c2 js b → ¬ Rel A c es' b := fun b hb hr => by
    obtain ⟨o, ho⟩ := hs b hb
    have hkd := h1.kd b o ho
    rcases hr with hr | ⟨i, e, he, hr | hr⟩
    · exact hkd.2.1 hr
    · exact hkd.2.2 i e he hr
    · rw [h1.kl i e b he hr] at ho; cases ho
  exact ⟨he, es', ⟨h1.none, h.I.move h1.hb h1.tab h1.hbk hk, fun b h1 h2 => hd b h2 h1⟩, h2, hk⟩
theorem fillInt2 (h : S2 B w W bk cs A c es A2 c2 js) (hf : IntB.Fl B W js 0) (hy : ∀ b, Rel A c es b → b < W.heap.size ∧ b ≠ bk) :
    Calls Tryz.prog 33 #[.pointer (some ⟨bk, 0, none⟩)] W fun e W' => e = .returned (.tuple #[]) ∧ S2 B w W' bk cs A c es A2 c2 js ∧ IntB.Fl B W' js js.length ∧ ∀ b, Rel A c es b → W'.heap[b]? = W.heap[b]? := by
  refine (IntB.fillInt_any (h.I.snapped (R := Rel A c es) (fun b hb => ⟨(hy b hb).2, (fun b h1 h2 => h.ap b h1 h2) b hb⟩)) hf).mono ?_
  rintro e W' ⟨he, h1, h2⟩
  have hk : ∀ b, Rel A c es b → W'.heap[b]? = W.heap[b]? := fun b hb => by
    have h3 := Array.getElem?_eq_getElem (hy b hb).1
    rw [h3]
    exact h1.kp b _ ((snap_at hb).trans h3)
  exact ⟨he, ⟨h.T.move h1.hb h1.tab h1.hbk hk, h1.none, h.ap⟩, h2, hk⟩
theorem growInt2 (h : S2 B w W bk cs A c es A2 c2 js) (hf : IntB.Fl B W js js.length) (hy : ∀ b, Rel A c es b → b < W.heap.size ∧ b ≠ bk) :
    Calls Tryz.prog 50 #[.pointer (some ⟨bk, 0, none⟩)] W fun e W' => e = .returned (.tuple #[]) ∧ ∃ es', S2 B w W' bk cs A c es A2 c2 es' ∧ IntB.Gl B W' bk A2 c2 es' es'.length ∧ ∀ b, Rel A c es b → W'.heap[b]? = W.heap[b]? := by
  refine (IntB.growInt_any (h.I.snapped (R := Rel A c es) (fun b hb => ⟨(hy b hb).2, (fun b h1 h2 => h.ap b h1 h2) b hb⟩)) hf).mono ?_
  rintro e W' ⟨he, es', hl, h1, h2⟩
  have hs : ∀ b, Rel A c es b → ∃ o, snap W (Rel A c es) b = some o := fun b hb => ⟨_, (snap_at hb).trans (Array.getElem?_eq_getElem (hy b hb).1)⟩
  have hk : ∀ b, Rel A c es b → W'.heap[b]? = W.heap[b]? := fun b hb => by
    have h3 := Array.getElem?_eq_getElem (hy b hb).1
    rw [h3]
    exact h1.kp b _ ((snap_at hb).trans h3)
  have hd : ∀ b, Rel A c es b → ¬ Rel A2 c2 es' b := fun b hb hr => by
    obtain ⟨o, ho⟩ := hs b hb
    have hkd := h1.kd b o ho
    rcases hr with hr | ⟨i, e, he, hr | hr⟩
    · exact hkd.2.1 hr
    · exact hkd.2.2 i e he hr
    · rw [h1.kl i e b he hr] at ho; cases ho
  exact ⟨he, es', ⟨h.T.move h1.hb h1.tab h1.hbk hk, h1.none, hd⟩, h2, hk⟩
end
end Go.Proofs.YtkfffoolpdilnaaGreatDoor
