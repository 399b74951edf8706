/-
  Memory: an append's run as an equation (for an append that is guarded). No condition.
-/
import Derived.Test.YtkfffoolpdilnaaGreatDoorVec
namespace Go.Bd
open Go.RowKit
theorem own_append1 {P : Program} (w : World) (t ty : TypeId) (base : Nat) (e : TypeId) (z : Value) (bytes : Nat) (ht : P.underlying t = some (.slice e)) (hi : (P.info? e).map (fun i => (i.zero, i.size, i.bytes)) = some (some z, 1, bytes)) (hz : z.cells.size = 1)
    (v : Value) (n : Nat) (xs : List Value) (hown : w.ownsRow base e 1 v n xs) (g c : Nat) (u : Value) (hc : w.cell? ⟨g, 0, none⟩ = some u) (h1 : u.oneCell' = true)
    (h63 : n + 1 ≤ maxLen) (hb : (n + 1) * bytes ≤ 140737488355328) (hbase : base ≤ w.heap.size) :
    ∃ v' w', (Builtin.append_ #[t, t] ty #[v, .slice (some ⟨g, 0, none⟩) 1 c]).run P w = .ok v' w' ∧ w'.ownsRow base e 1 v' (n + 1) (xs ++ [u]) ∧ w.grownBy w' v.ownBlock := by
  obtain ⟨i, hi, h2, h3, h4⟩ := info_parts hi
  obtain ⟨v', w', k1, k2, k3, _⟩ := run_append_own (P := P) w base t ty e i z 1 bytes ht hi h2 h3 h4 hz (by decide) v n xs hown ⟨g, 0, none⟩ 1 c [u] rfl (fun j u' hj => by
    obtain ⟨rfl, rfl⟩ : j = 0 ∧ u = u' := by
      cases j with
      | zero => exact ⟨rfl, by simpa using hj⟩
      | succ j => simp at hj
    rw [addr_add]; exact hc) (fun u' hu => by rw [List.mem_singleton] at hu; subst hu; exact h1) h63 hb hbase
  exact ⟨v', w', k1, k2, k3⟩
/-- append of one element of one cell, in a place that is guarded and reached -/
theorem wpList_app1g {P : Program} (w : World) {ops : Array Oper} {rest : List Oper} {o : Oper} {a : Act} {Q : Exit → Act → World → Prop} (hgd : Region.wanted o (yielded ops a.tmps) = true) (s x : Operand) (t : TypeId)
    (ho : o.op = .call { callee := .builtin .append, args := #[s, x], argTypes := #[t, t] })
    (base : Nat) (e : TypeId) (z : Value) (bytes : Nat) (ht : P.underlying t = some (.slice e)) (hi : (P.info? e).map (fun i => (i.zero, i.size, i.bytes)) = some (some z, 1, bytes)) (hz : z.cells.size = 1)
    (v : Value) (n : Nat) (xs : List Value) (hs : a.eval s = v) (hown : w.ownsRow base e 1 v n xs)
    (g c : Nat) (u : Value) (hx : a.eval x = .slice (some ⟨g, 0, none⟩) 1 c) (hc : w.cell? ⟨g, 0, none⟩ = some u) (h1 : u.oneCell' = true)
    (h63 : n + 1 ≤ maxLen) (hb : (n + 1) * bytes ≤ 140737488355328) (hbase : base ≤ w.heap.size)
    (h : ∀ v' w', w'.ownsRow base e 1 v' (n + 1) (xs ++ [u]) → w.grownBy w' v.ownBlock → wpList P ops Q rest (a.put o.dst v') w') : wpList P ops Q (o :: rest) a w := by
  obtain ⟨i, hi, h2, h3, h4⟩ := info_parts hi
  refine wpList_step fun K hK => ?_
  rw [if_pos hgd]
  refine wp_append_own w s x t ho base e i z 1 bytes ht hi h2 h3 h4 hz (by decide) v n xs hs hown ⟨g, 0, none⟩ 1 c [u] hx rfl (fun j u' hj => ?_) (fun u' hu => ?_) h63 hb hbase (fun v' w' k1 k2 _ => hK _ _ (h v' w' k1 k2))
  · obtain ⟨rfl, rfl⟩ : j = 0 ∧ u = u' := by
      cases j with
      | zero => exact ⟨rfl, by simpa using hj⟩
      | succ j => simp at hj
    rw [addr_add]; exact hc
  · rw [List.mem_singleton] at hu; subst hu; exact h1
/-- make([]T, n), elements of one cell whatever their zero -/
theorem wpList_makeA {P : Program} (w : World) {ops : Array Oper} {rest : List Oper} {o : Oper} {a : Act} {Q : Exit → Act → World → Prop} (hg : o.guard = none) (l c : Operand) (t : TypeId) (hop : o.op = Op.makeSlice t l c)
    (base : Nat) (e : TypeId) (z : Value) (size bytes : Nat) (ht : P.underlying t = some (.slice e)) (hi : (P.info? e).map (fun i => (i.zero, i.size, i.bytes)) = some (some z, size, bytes))
    (kl kc : IntKind) (L C : Int) (n : Nat) (hl : a.eval l = .int kl L) (hc : a.eval c = .int kc C) (hL : L = (n : Int)) (hC : C = (n : Int)) (b2 : bytes * n ≤ 281474976710656) (b3 : n ≤ maxLen) (b4 : base ≤ w.heap.size)
    (hK : ∀ w' zs, w'.ownsRow base e size (.slice (some ⟨w.heap.size, 0, none⟩) n n) n zs → w.grownBy w' none → wpList P ops Q rest (a.put o.dst (.slice (some ⟨w.heap.size, 0, none⟩) n n)) w') : wpList P ops Q (o :: rest) a w := by
  obtain ⟨i, hi', h2, h3, h4⟩ := info_parts hi
  subst h4
  exact wpList_make_full w hg l c t hop base e i z size ht hi' h2 h3 kl kc L C n hl hc hL hC b2 b3 b4 fun w' k1 k2 => hK w' _ k1 k2
theorem Rd.take {w : World} {B n c j : Nat} {A : Option Addr} {xs : List Value} (h : Rd w B (.slice A n c) xs) (hj : j ≤ n) : Rd w B (.slice A j c) (xs.take j) := by
  obtain ⟨A', c', e, hc, h⟩ := h
  injection e with e1 e2 e3
  subst e1; subst e2; subst e3
  have hl : (xs.take j).length = j := by rw [List.length_take]; omega
  refine ⟨A, c, by rw [hl], by omega, fun hn => ?_⟩
  obtain ⟨b, off, hA, hb, hcell⟩ := h (by omega)
  refine ⟨b, off, hA, hb, fun i u hu => hcell i u ?_⟩
  have hi := (List.getElem?_eq_some_iff.1 hu).1
  rw [List.getElem?_take, if_pos (by omega)] at hu
  exact hu
end Go.Bd
