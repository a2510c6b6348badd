import Derived.Test.YtjfpbaknhaikmaaV19
namespace Vx
open Go Classical
set_option linter.unusedSimpArgs false
set_option linter.unusedVariables false

/-! ## The list state and the semantic one -/
theorem lk_seta {α : Type} (n m : Nat) (x : α) : ∀ l : List (Nat × α), lk m (seta n x l) = if m = n then some x else lk m l
  | [] => by simp [seta, lk]
  | (k, y) :: l => by
    simp only [seta]
    by_cases h : n = k
    · subst h
      simp only [if_true, lk]
      split <;> simp_all
    · rw [if_neg h]
      simp only [lk, lk_seta n m x l]
      by_cases h2 : m = k
      · subst h2
        simp [h, Ne.symm h]
      · simp [h2]
theorem St.setP_sg (s : St) (r : Root) (c : Nat) (x : C) : (s.setP r c x).sg = s.sg.setP r c x := by
  cases r with
  | slot n =>
    simp only [St.setP, St.sg, Sg.setP]
    congr 1
    funext m
    simp only [St.slot, lk_seta]
    split <;> simp_all
  | new n =>
    simp only [St.setP, St.sg, Sg.setP]
    congr 1
    funext m
    simp only [St.slot, lk_seta]
    split <;> simp_all
  | obj k =>
    simp only [St.setP]
    cases h : lk k s.ob with
    | some row =>
      simp only [St.sg, Sg.setP, Sg.inr]
      congr 1
      · funext i j
        simp only [St.cell, lk_seta, St.kind, h, inrK]
        by_cases e : i = k
        · subst e
          simp only [if_true, true_and, decide_eq_true_eq]
          by_cases e2 : j = c
          · subst e2
            by_cases e3 : j < row.length
            · simp [e3, List.getD]
            · simp [e3, List.getD, h]
          · simp [e2, List.getD, h, List.getElem?_set_ne (Ne.symm e2)]
        · simp [e]
      · funext i
        simp only [St.kind, lk_seta]
        by_cases e : i = k
        · subst e; simp [h]
        · simp [e]
    | none =>
      cases hv : lk k s.vi with
      | none =>
        simp only [Option.isSome_none, Bool.false_eq_true, and_false, if_false]
        simp only [St.sg, Sg.setP, Sg.inr]
        congr 1
        funext i j
        simp [St.kind, h, hv, inrK]
      | some y =>
        by_cases hc : c = 0
        · subst hc
          simp only [Option.isSome_some, and_self, if_true]
          simp only [St.sg, Sg.setP, Sg.inr]
          congr 1
          · funext i j
            simp only [St.cell, lk_seta, St.kind, h, hv, inrK]
            by_cases e : i = k
            · subst e
              simp only [if_true, true_and, h, hv]
              by_cases e2 : j = 0 <;> simp [e2]
            · simp [e]
          · funext i
            simp only [St.kind, lk_seta]
            by_cases e : i = k
            · subst e; simp [h, hv]
            · simp [e]
        · simp only [hc, false_and, if_false]
          simp only [St.sg, Sg.setP, Sg.inr]
          congr 1
          funext i j
          simp [St.kind, h, hv, inrK, hc]
  | ret => rfl
theorem St.upd_sg (s : St) (u : Upd) : (s.upd u).sg = s.sg.upd u := by
  cases u with
  | slot n x =>
    simp only [St.upd, St.sg, Sg.upd]
    congr 1
    · funext m
      simp only [St.slot, lk_seta]
      split <;> simp_all
    · funext m
      simp only [St.isnew, List.contains_cons]
      by_cases e : m = n <;> simp [e]
  | hole r c => exact St.setP_sg s r c _
  | set r c t => exact St.setP_sg s r c _
  | cell k c x => exact St.setP_sg s (.obj k) c x
  | dirtS n c =>
    simp only [St.upd, St.sg, Sg.upd]
    congr 1
    funext r j
    show ((Vx.rt n (s.isnew n), c) :: s.di).contains (r, j) = if r = s.sg.rt n ∧ j = c then true else s.di.contains (r, j)
    have hrt : s.sg.rt n = Vx.rt n (s.isnew n) := rfl
    by_cases e : r = Vx.rt n (s.isnew n) ∧ j = c
    · obtain ⟨rfl, rfl⟩ := e; simp [hrt]
    · rw [if_neg (by rw [hrt]; exact e), List.contains_cons]
      have : ((r, j) == (Vx.rt n (s.isnew n), c)) = false := by
        rw [beq_eq_false_iff_ne]
        intro q; cases q; exact e ⟨rfl, rfl⟩
      rw [this]; simp
  | dirtC k c =>
    simp only [St.upd, St.sg, Sg.upd]
    congr 1
    funext r j
    simp only [St.dirty]
    by_cases e : r = .obj k ∧ j = c
    · obtain ⟨rfl, rfl⟩ := e; simp
    · rw [if_neg e, List.contains_cons]
      have : ((r, j) == (Root.obj k, c)) = false := by
        rw [beq_eq_false_iff_ne]
        intro q; cases q; exact e ⟨rfl, rfl⟩
      rw [this]; simp
  | box k row =>
    simp only [St.upd, St.sg, Sg.upd]
    congr 1
    · funext i j
      simp only [St.cell, lk_seta]
      by_cases e : i = k <;> simp [e]
    · funext i
      simp only [St.kind, lk_seta]
      by_cases e : i = k <;> simp [e]
  | mp k es =>
    simp only [St.upd, St.sg, Sg.upd]
    congr 1
    funext i
    simp only [St.map, lk_seta]
theorem St.upds_sg : ∀ (us : List Upd) (s : St), (s.upds us).sg = s.sg.upds us
  | [], s => rfl
  | u :: us, s => by rw [St.upds, St.upds_sg us, St.upd_sg, upds_cons]
theorem Rd.go_iff {α : Type} (s : St) : ∀ (f : Rd α) (lg : List Loc) (K : α → List Loc → Prop), f.go s lg K ↔ K (f.run s.sg) ((f.log s.sg).reverse ++ lg)
  | .ret a, lg, K => by simp [Rd.go, Rd.run, Rd.log]
  | .slot n f, lg, K => by
    simp only [Rd.go]
    rw [Rd.go_iff s]
    simp [Rd.run, Rd.log, St.sg, Sg.rt]
  | .cell k c f, lg, K => by
    simp only [Rd.go]
    rw [Rd.go_iff s]
    simp [Rd.run, Rd.log, St.sg]
  | .kind k f, lg, K => by
    simp only [Rd.go]
    rw [Rd.go_iff s]
    simp [Rd.run, Rd.log, St.sg]
  | .mp k f, lg, K => by
    simp only [Rd.go]
    rw [Rd.go_iff s]
    simp [Rd.run, Rd.log, St.sg]

/-! ## One operation, all its kinds -/
def ostep1 (P : Program) (R : Rel) (o : Oper) (an : Ans) : Rd Eff :=
  match o.op with
  | .pick (.tmp c) a b => .slot c fun sv _ _ => match sv with
    | .c (.t (.bool t)) => rdS (if t then a else b) fun sv => put o sv [] (sv.row.isSome = true)
    | _ => fail
  | .call { callee := .value (.func g), args, .. } => stepCall R o g args.toList an
  | _ => astep P o
def ostep (P : Program) (R : Rel) (ops : List Oper) (o : Oper) (an : Ans) : Rd Eff :=
  match o.guard with
  | none => ostep1 P R o an
  | some (j, want) => match (ops[j]?).bind (·.dst) with
    | some d => .slot d fun sv _ _ => match sv with
      | .c (.t (.bool b)) => if b = want then ostep1 P R o an else skipOp o
      | .c (.t (.val (.tuple _))) => skipOp o
      | _ => fail
    | none => fail

/-- A step of the walk is a step of the semantic state. -/
def Stepped (P : Program) (R : Rel) (f : Ans → Rd Eff) (s : St) (lg : List Loc) (l : List (List Loc × List Loc)) (K : Kont) : Prop :=
  ∃ an, ((f an).run s.sg).ok ∧ K (s.upds ((f an).run s.sg).upd) ((dlocs ((f an).run s.sg).upd ++ ((f an).log s.sg).reverse ++ lg, wlocs ((f an).run s.sg).upd) :: l)
theorem go_fin {s : St} {f : Rd Eff} {lg : List Loc} {l : List (List Loc × List Loc)} {K : Kont} (h : f.go s lg (fin s l K)) : (f.run s.sg).ok ∧ K (s.upds (f.run s.sg).upd) ((dlocs (f.run s.sg).upd ++ (f.log s.sg).reverse ++ lg, wlocs (f.run s.sg).upd) :: l) := by
  rw [Rd.go_iff] at h
  obtain ⟨h1, h2⟩ := h
  exact ⟨h1, by rw [List.append_assoc]; exact h2⟩
theorem aop1_step {P : Program} {R : Rel} {o : Oper} {s : St} {lg : List Loc} {l : List (List Loc × List Loc)} {K : Kont} (h : aop1 P R o s lg l K) : Stepped P R (ostep1 P R o) s lg l K := by
  unfold aop1 at h
  split at h
  · rename_i c a b ho
    split at h
    · rename_i t hs
      have e : ostep1 P R o default = .slot c fun sv _ _ => match sv with
          | .c (.t (.bool t)) => rdS (if t then a else b) fun sv => put o sv [] (sv.row.isSome = true)
          | _ => fail := by simp only [ostep1, ho]
      refine ⟨default, ?_⟩
      rw [e]
      have hs' : s.sg.slot c = .c (.t (.bool t)) := hs
      simp only [Rd.run, Rd.log, hs']
      cases t with
      | true => have := go_fin (h.1 rfl); simpa using this
      | false => have := go_fin (h.2 rfl); simpa using this
    · exact h.elim
  · rename_i g args _ ho
    obtain ⟨an, h⟩ := h
    refine ⟨an, ?_⟩
    have e : ostep1 P R o an = stepCall R o g args.toList an := by simp only [ostep1, ho]
    rw [e]
    exact go_fin h
  · rename_i h1 h2
    refine ⟨default, ?_⟩
    have e : ostep1 P R o default = astep P o := by
      unfold ostep1
      split
      · rename_i ho; exact absurd ho (h1 _ _ _)
      · rename_i ho; exact absurd ho (h2 _ _ _)
      · rfl
    rw [e]
    exact go_fin h
end Vx
