/-
  Memory: a raw write and a disk as they stand. No condition.
-/
import Derived.Test.YtggnkpblfmjbcaaDn
import Derived.Test.YtggnkpblfmjbcaaDf
namespace Go.Proofs.Ytggnkpblfmjbcaa
open Go.RowKit Go.Bd
def u8L (l : Bs) : List Value := l.map fun b => .int .u8 (b.toNat : Int)
theorem u8L_length (l : Bs) : (u8L l).length = l.length := by unfold u8L; simp
theorem u8L_append (a b : Bs) : u8L (a ++ b) = u8L a ++ u8L b := by unfold u8L; simp
theorem u8L_one {l : Bs} {u : Value} (h : u ∈ u8L l) : u.oneCell' = true := by
  unfold u8L at h
  obtain ⟨b, _, rfl⟩ := List.mem_map.1 h
  rfl
/-- a raw write as it stands: its boxes and its bytes lie in Ro, and are never written -/
def RawAt (w : World) (Ro : Nat → Prop) (f : Value) : Raw → Prop
  | .empty n => ∃ b, Ro b ∧ f = .func (.func 29) #[] #[.pointer (some ⟨b, 0, none⟩)] ∧ Holds w b 9 #[.string n] ∧ n.size ≤ 80
  | .behind n c => ∃ bb bn blk off cap, Ro bb ∧ Ro bn ∧ Ro blk ∧ f = .func (.func 31) #[] #[.pointer (some ⟨bb, 0, none⟩), .pointer (some ⟨bn, 0, none⟩)] ∧
      Holds w bb 30 #[.slice (some ⟨blk, off, none⟩) c.length cap] ∧ Holds w bn 9 #[.string n] ∧ n.size ≤ 80 ∧ (0 < c.length ∧ c.length ≤ 512) ∧ ∀ (j : Nat) u, (u8L c)[j]? = some u → w.cell? ⟨blk, off + j, none⟩ = some u
  | .gone n => ∃ b, Ro b ∧ f = .func (.func 28) #[] #[.pointer (some ⟨b, 0, none⟩)] ∧ Holds w b 9 #[.string n] ∧ n.size ≤ 80
theorem RawAt.chg {w w' : World} {Ro Ro' S : Nat → Prop} {f : Value} {r : Raw} (h : RawAt w Ro f r) (hc : Chg w w' S) (hr : ∀ k, Ro k → Ro' k) (hS : ∀ k, Ro k → ¬ S k) : RawAt w' Ro' f r := by
  cases r with
  | empty n =>
    obtain ⟨b, h1, h2, h3, h4⟩ := h
    exact ⟨b, hr _ h1, h2, hc.holds (hS _ h1) h3, h4⟩
  | gone n =>
    obtain ⟨b, h1, h2, h3, h4⟩ := h
    exact ⟨b, hr _ h1, h2, hc.holds (hS _ h1) h3, h4⟩
  | behind n c =>
    obtain ⟨bb, bn, blk, off, cap, h1, h2, h3, h4, h5, h6, h7, h8, h9⟩ := h
    exact ⟨bb, bn, blk, off, cap, hr _ h1, hr _ h2, hr _ h3, h4, hc.holds (hS _ h1) h5, hc.holds (hS _ h2) h6, h7, h8, fun j u hu => hc.cell (p := ⟨blk, off + j, none⟩) (hS _ h3) (h9 j u hu)⟩
/-- a list of raw writes as they stand -/
def RawsAt (w : World) (Ro : Nat → Prop) (fs : List Value) (rs : List Raw) : Prop := fs.length = rs.length ∧ ∀ (j : Nat) f r, fs[j]? = some f → rs[j]? = some r → RawAt w Ro f r
theorem RawsAt.chg {w w' : World} {Ro Ro' S : Nat → Prop} {fs : List Value} {rs : List Raw} (h : RawsAt w Ro fs rs) (hc : Chg w w' S) (hr : ∀ k, Ro k → Ro' k) (hS : ∀ k, Ro k → ¬ S k) : RawsAt w' Ro' fs rs :=
  ⟨h.1, fun j f r hf hg => (h.2 j f r hf hg).chg hc hr hS⟩
theorem RawsAt.snoc {w : World} {Ro : Nat → Prop} {fs : List Value} {rs : List Raw} {f : Value} {r : Raw} (h : RawsAt w Ro fs rs) (hf : RawAt w Ro f r) : RawsAt w Ro (fs ++ [f]) (rs ++ [r]) := by
  refine ⟨by simp [h.1], fun j f' r' h1 h2 => ?_⟩
  by_cases hj : j < fs.length
  · rw [List.getElem?_append_left hj] at h1
    rw [List.getElem?_append_left (by rw [← h.1]; exact hj)] at h2
    exact h.2 j f' r' h1 h2
  · rw [List.getElem?_append_right (by omega)] at h1
    rw [List.getElem?_append_right (by rw [← h.1]; omega)] at h2
    rw [List.getElem?_singleton] at h1 h2
    split at h1
    · split at h2
      · injection h1 with h1; injection h2 with h2
        subst h1; subst h2
        exact hf
      · exact absurd h2 (by simp)
    · exact absurd h1 (by simp)
theorem RawAt.one {w : World} {Ro : Nat → Prop} {f : Value} {r : Raw} (h : RawAt w Ro f r) : f.oneCell' = true := by
  cases r with
  | empty n => obtain ⟨b, _, rfl, _⟩ := h; rfl
  | gone n => obtain ⟨b, _, rfl, _⟩ := h; rfl
  | behind n c => obtain ⟨bb, bn, blk, off, cap, _, _, _, rfl, _⟩ := h; rfl
/-- the blocks of files, each for itself -/
def Apart (es : List Fe) : Prop := es.Pairwise fun a b => ∀ k, a.v.ownBlock = some k → b.v.ownBlock ≠ some k
/-- a disk as it stands: what is its own lies in F, what is only read in Ro; its files are what rs comes to (between two: its history and one raw write more) -/
structure DiskAt (w : World) (F Ro : Nat → Prop) (db : Nat) (size : Nat) (es : List Fe) (hist : List Raw) (bm : Nat) (hv : Value) (fs : List Value) (rs : List Raw) : Prop where
  hold : Holds w db 48 #[.int .i64 (size : Int), .int .i64 (usedB (fsOf es) : Int), .map (some bm), hv]
  map : FsMap w Try.prog 9 bm es
  uniq : Uniq es
  names : ∀ e ∈ es, e.name.size ≤ 80
  rows : ∀ e ∈ es, w.ownsRow 0 5 1 e.v e.c.length (u8L e.c)
  apart : Apart es
  row : w.ownsRow 0 52 1 hv hist.length fs
  raws : RawsAt w Ro fs hist
  says : fsOf es = runR rs
  inDb : F db
  inBm : F bm
  inHv : ∀ k, hv.ownBlock = some k → F k
  inEs : ∀ e ∈ es, ∀ k, e.v.ownBlock = some k → F k
  offDb : ¬ db = bm ∧ (∀ k, hv.ownBlock = some k → ¬ k = db ∧ ¬ k = bm) ∧ ∀ e ∈ es, ∀ k, e.v.ownBlock = some k → ¬ k = db ∧ ¬ k = bm ∧ hv.ownBlock ≠ some k
  ltF : ∀ k, F k → k < w.heap.size
  ltR : ∀ k, Ro k → k < w.heap.size
  off : ∀ k, Ro k → ¬ F k
theorem DiskAt.chg {w w' : World} {F F' Ro Ro' S : Nat → Prop} {db size bm : Nat} {es : List Fe} {hist : List Raw} {hv : Value} {fs : List Value} {rs : List Raw} (h : DiskAt w F Ro db size es hist bm hv fs rs) (hc : Chg w w' S) (hS : ∀ k, F k → ¬ S k) (hR : ∀ k, Ro k → ¬ S k) : DiskAt w' F Ro db size es hist bm hv fs rs where
  hold := hc.holds (hS _ h.inDb) h.hold
  map := h.map.chg hc (hS _ h.inBm)
  uniq := h.uniq
  names := h.names
  rows := fun e he => hc.owns (h.rows e he) (fun k hk => hS _ (h.inEs e he k hk))
  apart := h.apart
  row := hc.owns h.row (fun k hk => hS _ (h.inHv k hk))
  raws := h.raws.chg hc (fun _ hk => hk) hR
  says := h.says
  inDb := h.inDb
  inBm := h.inBm
  inHv := h.inHv
  inEs := h.inEs
  offDb := h.offDb
  ltF := fun k hk => Nat.lt_of_lt_of_le (h.ltF k hk) hc.size
  ltR := fun k hk => Nat.lt_of_lt_of_le (h.ltR k hk) hc.size
  off := h.off
end Go.Proofs.Ytggnkpblfmjbcaa
