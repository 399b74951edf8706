/-
  Memory: one cell appended to a row of its own: what the row held stays where it lay. No condition.
-/
import Derived.Test.YtkfffoolpdilnaaGreatDoorVec
import Derived.Test.YtkfffoolpdilnaaGreatDoorVec3
import Derived.Maps.AppendAt
namespace Go.Bd
open Go.RowKit
/-- as 'run_append_own_at', and: the old cells stay -/
theorem run_append_stays {P : Program} (w : World) (base : Nat) (t ty e : TypeId) (z : Value) (bytes : Nat) (ht : P.underlying t = some (.slice e)) (hi : (P.info? e).map (fun i => (i.zero, i.size, i.bytes)) = some (some z, 1, bytes)) (hz : z.cells.size = 1)
    (v : Value) (n : Nat) (xs : List Value) (hown : w.ownsRow base e 1 v n xs) (b c : Nat) (u : Value) (hu : w.cell? ⟨b, 0, none⟩ = some u) (h1 : u.oneCell' = true)
    (h63 : n + 1 ≤ maxLen) (hbytes : (n + 1) * bytes ≤ 140737488355328) (hbase : base ≤ w.heap.size) :
    ∃ g cap w', (Builtin.append_ #[t, t] ty #[v, .slice (some ⟨b, 0, none⟩) 1 c]).run P w = .ok (.slice (some ⟨g, 0, none⟩) (n + 1) cap) w' ∧ w'.ownsRow base e 1 (.slice (some ⟨g, 0, none⟩) (n + 1) cap) (n + 1) (xs ++ [u]) ∧
      w.grownBy w' v.ownBlock ∧ (v.ownBlock = some g ∨ g = w.heap.size) ∧ ∀ g0, v.ownBlock = some g0 → ∀ (j : Nat) x, xs[j]? = some x → w'.cell? ⟨g0, j, none⟩ = some x := by
  obtain ⟨i, hi', z1, z2, z3⟩ := info_parts hi
  have hnews : ∀ (j : Nat) x, [u][j]? = some x → w.cell? ((⟨b, 0, none⟩ : Addr).add j) = some x := fun j x hj => by
    match j, hj with
    | 0, hj =>
      simp only [List.getElem?_cons_zero, Option.some.injEq] at hj
      rw [addr_add, hu, hj]
    | j + 1, hj => simp at hj
  have h1' : ∀ x ∈ [u], x.oneCell' = true := fun x hx => by
    rw [List.mem_singleton] at hx; rw [hx]; exact h1
  obtain ⟨v', w', hr, hown', hgrow, hnil, hat⟩ := run_append_own_at (P := P) w base t ty e i z 1 bytes ht hi' z1 z2 z3 hz (by omega) v n xs hown ⟨b, 0, none⟩ 1 c [u] rfl hnews h1' h63 hbytes hbase
  have hform : ∃ g cap, v' = .slice (some ⟨g, 0, none⟩) (n + 1) cap := by
    rcases hown'.2 with ⟨_, h0⟩ | ⟨g, cap, cur, hv, _⟩
    · omega
    · exact ⟨g, cap, hv⟩
  obtain ⟨g, cap, rfl⟩ := hform
  refine ⟨g, cap, w', hr, hown', hgrow, hat.imp (fun h => h.symm) (fun h => by simpa [Value.ownBlock] using h), fun g0 hg0 j x hx => ?_⟩
  rcases hown.2 with ⟨hv, _⟩ | ⟨g1, cap1, cur, hv, hb, hh, hc, hm, hs, htk⟩
  · rw [hv] at hg0; cases hg0
  · subst hv
    have e0 : g1 = g0 := by simpa [Value.ownBlock] using hg0
    subst e0
    by_cases hroom : n + 1 ≤ cap1
    · have hr2 := run_append_room (P := P) (ty := ty) w t e i ht hi' g1 n cap1 cur hh ⟨b, 0, none⟩ 1 c [u] (by rw [z2]; rfl) hnews h1' hroom (by rw [z2, hs]; simp; omega)
      rw [hr] at hr2
      injection hr2 with e1 e2
      injection e1 with e1
      have eg : g = g1 := by simpa using e1
      subst eg
      exact own_cell hown' (by rw [List.getElem?_append_left (List.getElem?_eq_some_iff.1 hx).1]; exact hx)
    · have holds : ∀ (j : Nat) x, xs[j]? = some x → w.cell? ((⟨g1, 0, none⟩ : Addr).add j) = some x := hown.cells (g := g1) rfl
      have hr2 := run_append_grow (P := P) (ty := ty) w t e i z ht hi' z1 ⟨g1, 0, none⟩ n cap1 xs (by rw [z2]; exact hown.1) holds ⟨b, 0, none⟩ 1 c [u] (by rw [z2]; rfl) hnews (by omega) (by unfold maxLen at h63; omega) (growslice_fits (by omega) (by rw [z3]; exact hbytes))
      rw [hr] at hr2
      injection hr2 with e1 e2
      rw [e2]
      have h := holds j x hx
      rw [addr_add] at h
      exact (World.cell?_of_block (heap_alloc_old w.drew _ (Array.getElem?_eq_some_iff.1 hh).1)).trans h
/-- at a step of a region that draws its order -/
theorem step_append_stays {P : Program} {ops : Array Oper} {o : Oper} {a : Act} {w : World} {K : Act → World → Prop} {Q : Exit → Act → World → Prop} {E : Prop} (hgd : o.guard = none) (s x : Operand) (t : TypeId)
    (ho : o.op = .call { callee := .builtin .append, args := #[s, x], argTypes := #[t, t] }) (base : Nat) (e : TypeId) (z : Value) (bytes : Nat) (ht : P.underlying t = some (.slice e)) (hi : (P.info? e).map (fun i => (i.zero, i.size, i.bytes)) = some (some z, 1, bytes)) (hz : z.cells.size = 1)
    (v : Value) (n : Nat) (xs : List Value) (hs : a.eval s = v) (hown : w.ownsRow base e 1 v n xs) (b c : Nat) (u : Value) (hx : a.eval x = .slice (some ⟨b, 0, none⟩) 1 c) (hu : w.cell? ⟨b, 0, none⟩ = some u) (h1 : u.oneCell' = true)
    (h63 : n + 1 ≤ maxLen) (hbytes : (n + 1) * bytes ≤ 140737488355328) (hbase : base ≤ w.heap.size)
    (h : ∀ g cap w', w'.ownsRow base e 1 (.slice (some ⟨g, 0, none⟩) (n + 1) cap) (n + 1) (xs ++ [u]) → w.grownBy w' v.ownBlock → (v.ownBlock = some g ∨ g = w.heap.size) →
      (∀ g0, v.ownBlock = some g0 → ∀ (j : Nat) x, xs[j]? = some x → w'.cell? ⟨g0, j, none⟩ = some x) → K (a.put o.dst (.slice (some ⟨g, 0, none⟩) (n + 1) cap)) w') :
    if Region.wanted o (yielded ops a.tmps) = true then Oper.wp P o a w K Q else E := by
  have hw : Region.wanted o (yielded ops a.tmps) = true := by simp [Region.wanted, hgd]
  rw [if_pos hw]
  obtain ⟨g, cap, w', hr, k2, k3, k4, k5⟩ := run_append_stays (P := P) w base t o.type e z bytes ht hi hz v n xs hown b c u hu h1 h63 hbytes hbase
  unfold Oper.wp execOp
  simp only [ho, resolve, invoke, builtin, Sem.run_bind, Sem.run_pure, Result.andThen_ok, List.map_toArray, List.map_cons, List.map_nil, hs, hx, hr]
  exact h g cap w' k2 k3 k4 k5
/-- at an operation of a region with one order -/
theorem wpList_append_stays {P : Program} (w : World) {ops : Array Oper} {rest : List Oper} {o : Oper} {a : Act} {Q : Exit → Act → World → Prop} (hgd : o.guard = none) (s x : Operand) (t : TypeId)
    (ho : o.op = .call { callee := .builtin .append, args := #[s, x], argTypes := #[t, t] }) (base : Nat) (e : TypeId) (z : Value) (bytes : Nat) (ht : P.underlying t = some (.slice e)) (hi : (P.info? e).map (fun i => (i.zero, i.size, i.bytes)) = some (some z, 1, bytes)) (hz : z.cells.size = 1)
    (v : Value) (n : Nat) (xs : List Value) (hs : a.eval s = v) (hown : w.ownsRow base e 1 v n xs) (b c : Nat) (u : Value) (hx : a.eval x = .slice (some ⟨b, 0, none⟩) 1 c) (hu : w.cell? ⟨b, 0, none⟩ = some u) (h1 : u.oneCell' = true)
    (h63 : n + 1 ≤ maxLen) (hbytes : (n + 1) * bytes ≤ 140737488355328) (hbase : base ≤ w.heap.size)
    (h : ∀ g cap w', w'.ownsRow base e 1 (.slice (some ⟨g, 0, none⟩) (n + 1) cap) (n + 1) (xs ++ [u]) → w.grownBy w' v.ownBlock → (v.ownBlock = some g ∨ g = w.heap.size) →
      (∀ g0, v.ownBlock = some g0 → ∀ (j : Nat) x, xs[j]? = some x → w'.cell? ⟨g0, j, none⟩ = some x) → wpList P ops Q rest (a.put o.dst (.slice (some ⟨g, 0, none⟩) (n + 1) cap)) w') : wpList P ops Q (o :: rest) a w := by
  refine wpList_plain hgd fun K hK => ?_
  obtain ⟨g, cap, w', hr, k2, k3, k4, k5⟩ := run_append_stays (P := P) w base t o.type e z bytes ht hi hz v n xs hown b c u hu h1 h63 hbytes hbase
  unfold Oper.wp execOp
  simp only [ho, resolve, invoke, builtin, Sem.run_bind, Sem.run_pure, Result.andThen_ok, List.map_toArray, List.map_cons, List.map_nil, hs, hx, hr]
  exact hK _ _ (h g cap w' k2 k3 k4 k5)
end Go.Bd
