import Derived.Test.YtjfpbaknhaikmaaV30
namespace Vx
open Go

/-! ## Rules for the walk: what comes after an operation is hidden behind a variable -/
section
variable {P : Program} {R : Rel} {keep : List Nat} {Q : AX → St → Prop} {s : St}
theorem region_rule {id : Nat} {ops : List Oper} {draw : Bool} (h : aops P R ops ops s [] (fun s l => (draw = true → indep ops l = true) ∧ Q .normal (s.fix keep))) : awp P R keep (.region id ops.toArray draw) Q s := by
  simpa [awp] using h
theorem seq_rule {a b : Code} (h : awp P R keep a (fun e s => match e with | .normal => awp P R keep b Q s | e => Q e s) s) : awp P R keep (.seq a b) Q s := h
theorem skip_rule (h : Q .normal s) : awp P R keep .skip Q s := h
theorem ret_rule (h : Q .ret s) : awp P R keep .ret Q s := h
theorem exit_rule {id : Nat} (h : Q (.exit id) s) : awp P R keep (.exit id) Q s := h
theorem block_rule {id : Nat} {c : Code} (h : awp P R keep c (fun e s => match e with | .exit j => if j = id then Q .normal s else Q (.exit j) s | e => Q e s) s) : awp P R keep (.block id c) Q s := h
theorem loop_rule {c : Code} (h : aloop (awp P R keep c) Q s) : awp P R keep (.loop c) Q s := h
theorem cond_rule {c : Nat} {a b : Code} {t : Bool} (hs : s.slot c = .c (.t (.bool t))) (ha : t = true → awp P R keep a Q s) (hb : t = false → awp P R keep b Q s) : awp P R keep (.cond (.tmp c) a b) Q s := by
  simp only [awp, hs]
  exact ⟨ha, hb⟩
theorem nil_rule {ops : List Oper} {l : List (List Loc × List Loc)} {K : Kont} (h : K s l) : aops P R ops [] s l K := h
theorem op_rule {ops : List Oper} {o : Oper} {r : List Oper} {l : List (List Loc × List Loc)} {K0 : Kont} (h : ∀ K : Kont, (∀ s l, aops P R ops r s l K0 → K s l) → aop P R ops o s l K) : aops P R ops (o :: r) s l K0 := h _ fun _ _ h => h
theorem call_rule {o : Oper} {g : Nat} {args : List Operand} {fa : List SV} {res : SV} {lg : List Loc} {K' : Eff → List Loc → Prop} (hc : R g fa [] res []) (h : R g fa [] res [] → Rd.go s (stepCall R o g args ⟨[], res, []⟩) lg K') : ∃ an, Rd.go s (stepCall R o g args an) lg K' := ⟨_, h hc⟩
theorem awp_fix {c : Code} {s' : St} {keep' : List Nat} (hs : s.fix keep' = s') (h : awp P R keep c Q s') : awp P R keep c Q (s.fix keep') := hs ▸ h
theorem fnPost_fix {ts : List ResultVar} {res : SV} {out : List AR} {s' : St} {keep' : List Nat} (hs : s.fix keep' = s') (h : fnPost P ts res out s') : fnPost P ts res out (s.fix keep') := hs ▸ h
theorem fix_rule {Q' : St → Prop} {s' : St} (hs : s = s') (h : Q' s') : Q' s := hs ▸ h
end
end Vx
