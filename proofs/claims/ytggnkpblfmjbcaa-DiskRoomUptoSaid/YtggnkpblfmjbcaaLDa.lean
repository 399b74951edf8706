/-
  Walks: what is done with a disk, as it is handed in; more than is gone through.
-/
import Derived.Test.YtggnkpblfmjbcaaDS
namespace Go.Proofs.Ytggnkpblfmjbcaa
open Go.RowKit Go.Bd
/-- what is done with a disk -/
structure Ac where
  kind : Nat
  name : ByteArray
  b : Bs
  pos : Int
def acCells (x : Ac) (bv : Value) : List Value := [.int .u8 (x.kind : Int), .string x.name, bv, .int .i64 x.pos]
/-- a slice of these as it reads, in blocks below B -/
def ActsAt (w : World) (B : Nat) (v : Value) (l : List Ac) : Prop :=
  ∃ A c, ∃ bvs : List Value, v = .slice A l.length c ∧ l.length ≤ c ∧ bvs.length = l.length ∧ (l ≠ [] → ∃ b off, A = some ⟨b, off, none⟩ ∧ b < B ∧ ∀ (j : Nat) x bv, l[j]? = some x → bvs[j]? = some bv → ∀ (i : Nat) u, (acCells x bv)[i]? = some u → w.cell? ⟨b, off + j * 4 + i, none⟩ = some u) ∧
    ∀ (j : Nat) x bv, l[j]? = some x → bvs[j]? = some bv → BytesR w B bv x.b
theorem ActsAt.form {w : World} {B : Nat} {v : Value} {l : List Ac} (h : ActsAt w B v l) : ∃ A c, v = .slice A l.length c ∧ l.length ≤ c ∧ ∀ (j : Nat) x, l[j]? = some x → ∃ b off A' c', A = some ⟨b, off, none⟩ ∧ b < B ∧
    w.cell? ⟨b, off + j * 4, none⟩ = some (.int .u8 (x.kind : Int)) ∧ w.cell? ⟨b, off + j * 4 + 1, none⟩ = some (.string x.name) ∧ w.cell? ⟨b, off + j * 4 + 2, none⟩ = some (.slice A' x.b.length c') ∧ w.cell? ⟨b, off + j * 4 + 3, none⟩ = some (.int .i64 x.pos) ∧
    x.b.length ≤ c' ∧ (x.b = [] ∨ ∃ g o, A' = some ⟨g, o, none⟩ ∧ g < B ∧ ∀ (i : Nat) u, (u8L x.b)[i]? = some u → w.cell? ⟨g, o + i, none⟩ = some u) := by
  obtain ⟨A, c, bvs, rfl, hc, hl, hA, hb⟩ := h
  refine ⟨A, c, rfl, hc, fun j x hj => ?_⟩
  have hjl := (List.getElem?_eq_some_iff.1 hj).1
  obtain ⟨bv, hbv⟩ : ∃ bv, bvs[j]? = some bv := ⟨_, List.getElem?_eq_getElem (by omega)⟩
  obtain ⟨b, off, rfl, hbB, hcell⟩ := hA (fun e => by rw [e] at hj; simp at hj)
  have hR := hb j x bv hj hbv
  obtain ⟨A', c', rfl, hc', hrc⟩ := hR
  rw [u8L_length] at hc'
  have hcs := hcell j x _ hj hbv
  refine ⟨b, off, A', c', rfl, hbB, hcs 0 _ rfl, hcs 1 _ rfl, ?_, hcs 3 _ rfl, hc', ?_⟩
  · have := hcs 2 _ rfl
    rwa [u8L_length] at this
  · by_cases h0 : x.b = []
    · exact .inl h0
    · obtain ⟨g, o, h1, h2, h3⟩ := hrc (by rw [u8L_length]; exact List.length_pos_iff.2 h0)
      exact .inr ⟨g, o, h1, h2, h3⟩
/-- how much there is to go through -/
def weigh (l : List Ac) : Nat := (l.map fun x => 1 + x.b.length + x.name.size).sum
def greatA (l : List Ac) : Bool := decide (100 < l.length) || decide (60000 < weigh l)
theorem weigh_take {l : List Ac} {k : Nat} {x : Ac} (h : l[k]? = some x) : weigh (l.take (k + 1)) = weigh (l.take k) + (1 + x.b.length + x.name.size) := by
  rw [List.take_add_one, h]
  unfold weigh
  simp
theorem weigh_take_le (l : List Ac) (k : Nat) : weigh (l.take k) ≤ weigh l := by
  have h : l.take k ++ l.drop k = l := List.take_append_drop k l
  have e : weigh l = weigh (l.take k) + weigh (l.drop k) := by
    conv => lhs; rw [← h]
    unfold weigh
    rw [List.map_append, List.sum_append]
  omega
theorem weigh_length (l : List Ac) : l.length ≤ weigh l := by
  unfold weigh
  induction l with
  | nil => simp
  | cons a l ih => simp only [List.map_cons, List.sum_cons, List.length_cons]; omega
set_option maxRecDepth 100000 in
set_option maxHeartbeats 2000000 in
theorem great_any (v : Value) (l : List Ac) (w : World) (B : Nat) (h : ActsAt w B v l) (hw : weigh l ≤ 1048576) :
    Calls Try.prog 5 #[v] w fun e w' => e = .returned (.bool (greatA l)) ∧ Below w.heap.size w w' := by
  obtain ⟨A, c, rfl, hc, f⟩ := h.form
  have F := Lib.hid f
  have hll := weigh_length l
  have WL := Lib.hid (weigh_take_le l)
  clear h f
  unfold greatA
  generalize hn : l.length = n at hc hll ⊢
  have HN := Lib.hid hn
  clear hn
  go_enter Try.func5, Try.ntmps5
  go_wp2
  go_loopg [3, 4] n (fun q vn vi wr => ∃ k : Nat, k + q = n ∧ vi = .int .i64 (k : Int) ∧ vn = .int .i64 (weigh (l.take k) : Int) ∧ Below w.heap.size w wr ∧ ∀ p : Addr, wr.cell? p = w.cell? p)
  case atStart => exact ⟨0, by omega, rfl, by simp [weigh], Below.refl _ _, fun _ => rfl⟩
  case round =>
    obtain ⟨k, hk, rfl, rfl, hbl, hcell⟩ := hrel
    by_cases hlt : k < n
    · obtain ⟨x, hx⟩ : ∃ x, l[k]? = some x := ⟨_, List.getElem?_eq_getElem (by rw [HN.out]; exact hlt)⟩
      obtain ⟨b, off, A', c', rfl, _, c0, c1, c2, c3, hc', _⟩ := F.out k x hx
      replace c1 := (hcell _).trans c1
      replace c2 := (hcell _).trans c2
      have hwt := weigh_take hx
      have hwl := WL.out (k + 1)
      rw [hwt] at hwl
      generalize hm : weigh (l.take k) = m at hwt hwl ⊢
      generalize hs : x.name.size = sz at hwt hwl
      generalize hbn : x.b.length = bn at hwt hwl c2 hc'
      have HWT := Lib.hid hwt
      have HC := Lib.hid hcell
      have HS := Lib.hid hs
      clear hcell c0 c3 hx hwt
      go_wp2
      go_quiet (fail)
      go_wp2
      have hb2 := below_drewN hbl nq
      go_roundg (gk - 1)
      case measure => omega
      case rel => exact ⟨k + 1, by omega, by go_num, by rw [HWT.out]; congr 1; omega, hb2, fun p => HC.out p⟩
    · obtain rfl : k = n := by omega
      have ht : l.take k = l := List.take_of_length_le (by rw [HN.out]; exact Nat.le_refl _)
      rw [ht]
      clear hcell
      by_cases h1 : 100 < k
      · go_wp2
        go_ret
        refine ⟨?_, hbl⟩
        simp [h1]
      · go_wp2
        go_ret
        refine ⟨?_, hbl⟩
        simp [h1]
        have e1 : decide ((100 : Int) < (k : Int)) = false := decide_eq_false (by omega)
        rw [e1, Bool.false_or]
        exact decide_eq_decide.2 (by omega)
end Go.Proofs.Ytggnkpblfmjbcaa
