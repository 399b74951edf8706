/-
  Memory: an append's run as an equation (for an append that is guarded). No condition.
-/
import Derived.Test.YtkfffoolpdilnaaDoorVec
namespace Go.Bd
open Go.RowKit
theorem own_append1 {P : Program} (w : World) (t ty : TypeId) (base : Nat) (e : TypeId) (z : Value) (bytes : Nat) (ht : P.underlying t = some (.slice e)) (hi : (P.info? e).map (fun i => (i.zero, i.size, i.bytes)) = some (some z, 1, bytes)) (hz : z.cells.size = 1)
    (v : Value) (n : Nat) (xs : List Value) (hown : w.ownsRow base e 1 v n xs) (g c : Nat) (u : Value) (hc : w.cell? ⟨g, 0, none⟩ = some u) (h1 : u.oneCell' = true)
    (h63 : n + 1 ≤ maxLen) (hb : (n + 1) * bytes ≤ 140737488355328) (hbase : base ≤ w.heap.size) :
    ∃ v' w', (Builtin.append_ #[t, t] ty #[v, .slice (some ⟨g, 0, none⟩) 1 c]).run P w = .ok v' w' ∧ w'.ownsRow base e 1 v' (n + 1) (xs ++ [u]) ∧ w.grownBy w' v.ownBlock := by
  obtain ⟨i, hi, h2, h3, h4⟩ := info_parts hi
  obtain ⟨v', w', k1, k2, k3, _⟩ := run_append_own (P := P) w base t ty e i z 1 bytes ht hi h2 h3 h4 hz (by decide) v n xs hown ⟨g, 0, none⟩ 1 c [u] rfl (fun j u' hj => by
    obtain ⟨rfl, rfl⟩ : j = 0 ∧ u = u' := by
      cases j with
      | zero => exact ⟨rfl, by simpa using hj⟩
      | succ j => simp at hj
    rw [addr_add]; exact hc) (fun u' hu => by rw [List.mem_singleton] at hu; subst hu; exact h1) h63 hb hbase
  exact ⟨v', w', k1, k2, k3⟩
/-- append of one element of one cell, in a place that is guarded and reached -/
theorem wpList_app1g {P : Program} (w : World) {ops : Array Oper} {rest : List Oper} {o : Oper} {a : Act} {Q : Exit → Act → World → Prop} (hgd : Region.wanted o (yielded ops a.tmps) = true) (s x : Operand) (t : TypeId)
    (ho : o.op = .call { callee := .builtin .append, args := #[s, x], argTypes := #[t, t] })
    (base : Nat) (e : TypeId) (z : Value) (bytes : Nat) (ht : P.underlying t = some (.slice e)) (hi : (P.info? e).map (fun i => (i.zero, i.size, i.bytes)) = some (some z, 1, bytes)) (hz : z.cells.size = 1)
    (v : Value) (n : Nat) (xs : List Value) (hs : a.eval s = v) (hown : w.ownsRow base e 1 v n xs)
    (g c : Nat) (u : Value) (hx : a.eval x = .slice (some ⟨g, 0, none⟩) 1 c) (hc : w.cell? ⟨g, 0, none⟩ = some u) (h1 : u.oneCell' = true)
    (h63 : n + 1 ≤ maxLen) (hb : (n + 1) * bytes ≤ 140737488355328) (hbase : base ≤ w.heap.size)
    (h : ∀ v' w', w'.ownsRow base e 1 v' (n + 1) (xs ++ [u]) → w.grownBy w' v.ownBlock → wpList P ops Q rest (a.put o.dst v') w') : wpList P ops Q (o :: rest) a w := by
  obtain ⟨i, hi, h2, h3, h4⟩ := info_parts hi
  refine wpList_step fun K hK => ?_
  rw [if_pos hgd]
  refine wp_append_own w s x t ho base e i z 1 bytes ht hi h2 h3 h4 hz (by decide) v n xs hs hown ⟨g, 0, none⟩ 1 c [u] hx rfl (fun j u' hj => ?_) (fun u' hu => ?_) h63 hb hbase (fun v' w' k1 k2 _ => hK _ _ (h v' w' k1 k2))
  · obtain ⟨rfl, rfl⟩ : j = 0 ∧ u = u' := by
      cases j with
      | zero => exact ⟨rfl, by simpa using hj⟩
      | succ j => simp at hj
    rw [addr_add]; exact hc
  · rw [List.mem_singleton] at hu; subst hu; exact h1
end Go.Bd
