import Derived.Test.YtjfpbaknhaikmaaProg
import Derived.KernelRfl
import Derived.Test.YtjfpbaknhaikmaaV31
open Go Vx
namespace YtjfpbaknhaikmaaVxEv
open Go.Proofs
set_option maxRecDepth 100000
set_option linter.unusedSimpArgs false
theorem hmix : Try.prog.follows .mixedOrders = true := by kernel_rfl
theorem ti3 : tinfo Try.prog 3 = some ⟨.other, false, 1, 8, [.int .i64 0], [], none⟩ := by kernel_rfl
theorem ti4 : tinfo Try.prog 4 = some ⟨.bool, false, 1, 1, [.bool false], [], none⟩ := by kernel_rfl
theorem ti61 : tinfo Try.prog 61 = some ⟨.other, true, 4, 32, [.int .i64 0, .int .i64 0, .int .i64 0, .int .i64 0], [(0,1),(1,1),(2,1),(3,1)], none⟩ := by kernel_rfl
theorem ti63 : tinfo Try.prog 63 = some ⟨.other, true, 4, 32, [.int .i64 0, .int .i64 0, .int .i64 0, .int .i64 0], [(0,1),(1,1),(2,1),(3,1)], none⟩ := by kernel_rfl
theorem ti24 : tinfo Try.prog 24 = some ⟨.other, false, 1, 24, [.nil], [], some 63⟩ := by kernel_rfl
theorem ti27 : tinfo Try.prog 27 = some ⟨.other, false, 1, 24, [.nil], [], some 61⟩ := by kernel_rfl
structure Ev where
  node : Int
  action : Int
  other : Int
  nodes : Int
def evT (e : Ev) : List T := [.int .i64 e.node, .int .i64 e.action, .int .i64 e.other, .int .i64 e.nodes]
def cnt (act : Int) (l : List Ev) : Nat := (l.filter fun e => e.action = act).length
theorem cnt_le (act : Int) (l : List Ev) : cnt act l ≤ l.length := List.length_filter_le _ _
theorem cnt_take (act : Int) (l : List Ev) (k : Nat) (h : k < l.length) : cnt act (l.take (k + 1)) = cnt act (l.take k) + (if l[k].action = act then 1 else 0) := by
  rw [List.take_add_one, List.getElem?_eq_getElem h]
  simp only [cnt, Option.toList_some, List.filter_append, List.length_append]
  congr 1
  by_cases e : l[k].action = act <;> simp [e]
theorem wrapNat (n : Nat) (h : n ≤ 2 ^ 40) : IntKind.i64.wrap (n : Int) = n := by
  rw [IntKind.wrap_i64]; omega
def zr : List T := [.int .i64 0, .int .i64 0, .int .i64 0, .int .i64 0]
def rows (L : List Ev) (k : Nat) : List (List T) := (L.take k).map evT ++ List.replicate (L.length - k) zr
theorem rows_get (L : List Ev) (k : Nat) (h : k < L.length) : (rows L k)[k]? = some zr := by
  unfold rows
  have hl : ((L.take k).map evT).length = k := by simp; omega
  rw [List.getElem?_append_right (by omega), hl, Nat.sub_self, List.getElem?_replicate, if_pos (by omega)]
theorem rows_set (L : List Ev) (k : Nat) (h : k < L.length) : (rows L k).set k (evT L[k]) = rows L (k + 1) := by
  apply List.ext_getElem?
  intro i
  unfold rows
  have hl : ((L.take k).map evT).length = k := by simp; omega
  have hl2 : ((L.take (k + 1)).map evT).length = k + 1 := by simp; omega
  by_cases e : k = i
  · subst e
    rw [List.getElem?_set_self (by simp; omega), List.getElem?_append_left (by omega)]
    simp [List.getElem?_take, h]
  · rw [List.getElem?_set_ne e]
    by_cases hlt : i < k
    · rw [List.getElem?_append_left (by omega), List.getElem?_append_left (by omega)]
      simp only [List.getElem?_map, List.getElem?_take]
      rw [if_pos hlt, if_pos (by omega)]
    · rw [List.getElem?_append_right (by omega), List.getElem?_append_right (by omega), hl, hl2, List.getElem?_replicate, List.getElem?_replicate]
      by_cases q : i < L.length
      · rw [if_pos (by omega), if_pos (by omega)]
      · rw [if_neg (by omega), if_neg (by omega)]
theorem rows_put (L : List Ev) (k : Nat) (h : k < L.length) : putCells (.sl true 4 (rows L k)) ⟨k, 4, 0⟩ [] [.int .i64 L[k].node, .int .i64 L[k].action, .int .i64 L[k].other, .int .i64 L[k].nodes] = .sl true 4 (rows L (k + 1)) := by
  rw [putCells_eq _ _ (.sl true 4 (rows L k)) ⟨k, 4, 0⟩ rfl ⟨rows L k, zr, rfl, rows_get L k h, by simp [zr]⟩]
  have := setCells_eq [.int .i64 L[k].node, .int .i64 L[k].action, .int .i64 L[k].other, .int .i64 L[k].nodes] ⟨k, 4, 0⟩ (rows L k) zr (rows_get L k h) (by simp [zr])
  simp only at this
  rw [this]
  simp only [T.put]
  congr 1
  rw [← rows_set L k h]
  rfl
theorem rows_at (L : List Ev) (k : Nat) (h : k < L.length) : atCells (.sl true 4 (rows L k)) ⟨k, 4, 0⟩ [] 4 = some zr := by
  simp [atCells, T.at, T.sub, rows_get L k h, zr]
end YtjfpbaknhaikmaaVxEv
