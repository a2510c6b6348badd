import Derived.Test.YtjfpbaknhaikmaaV25
namespace Vx
open Go Classical
set_option linter.unusedSimpArgs false
set_option linter.unusedVariables false

/-! ## Functions -/
def numbered {α : Type} : Nat → List α → List (Nat × α)
  | _, [] => []
  | n, x :: l => (n, x) :: numbered (n + 1) l
def obsOf : Nat → List AR → List (Nat × List C)
  | _, [] => []
  | k, .box row :: l => (k, row) :: obsOf (k + 1) l
  | k, _ :: l => obsOf (k + 1) l
def visOf : Nat → List AR → List (Nat × C)
  | _, [] => []
  | k, .virt x :: l => (k, .t x) :: visOf (k + 1) l
  | k, _ :: l => visOf (k + 1) l
def mpsOf : Nat → List AR → List (Nat × List (T × T))
  | _, [] => []
  | k, .map es :: l => (k, es) :: mpsOf (k + 1) l
  | k, _ :: l => mpsOf (k + 1) l
/-- The state at a function's entry; with no arguments, what it hands back. -/
def entrySt (fa : List SV) (rs : List AR) : St := ⟨numbered 0 fa, [], obsOf 0 rs, visOf 0 rs, mpsOf 0 rs, []⟩
def C.data : C → Bool
  | .t _ => true
  | _ => false
def SV.data : SV → Bool
  | .c x => x.data
  | .agg row => row.all C.data
  | .tup l => l.all fun x => match x with | .c x => x.data | .agg row => row.all C.data && decide (row.length ≤ 64) | .tup _ => false
abbrev noDirt : Dirt := fun _ _ => false
/-- What a function returns: `fa` the arguments, `rs` what is lent, `res` the result, `out` what is handed back. -/
def Returns (E : Env) (f : Nat) (fa : List SV) (rs : List AR) (res : SV) (out : List AR) : Prop :=
  res.data = true ∧ (∀ (vals : Array Value) (w : World), (callFunc f vals).run E.P w = .ok (.enter f vals) w) ∧ ∀ (w : World) (g : Gh) (vals : Array Value), LIM ≤ g.lim → vals.size = fa.length → Core E (entrySt fa rs).sg vals w g →
    Calls E.P f vals w fun e w' => match e with
      | .returned v => ∃ g', SVRep w' g' noDirt .ret 0 res v ∧ Core E (entrySt [] out).sg #[] w' g' ∧ Move w g w' g'
      | _ => False

theorem lk_numbered {α : Type} : ∀ (l : List α) (n m : Nat), lk m (numbered n l) = if n ≤ m then l[m - n]? else none
  | [], n, m => by simp [numbered, lk]
  | x :: l, n, m => by
    simp only [numbered, lk, lk_numbered l]
    by_cases e : m = n
    · subst e; simp
    · rw [if_neg e]
      by_cases h : n ≤ m
      · rw [if_pos (by omega), if_pos h, show m - n = (m - (n + 1)) + 1 by omega]; simp
      · rw [if_neg (by omega), if_neg h]
theorem entry_slot (fa : List SV) (rs : List AR) (n : Nat) : (entrySt fa rs).slot n = (fa[n]?).getD (.c (.t .top)) := by
  show (lk n (numbered 0 fa)).getD _ = _
  rw [lk_numbered]; simp

/-- The results of a function, taken. -/
def takeRow (agg : Bool) (row : List C) (f : SV → List Upd → Rd Eff) : Rd Eff :=
  takeL row fun l us => if agg then f (.agg (l.map C.t)) us else match l with
    | [x] => f (.c (.t x)) us
    | _ => fail
def resRd (P : Program) : List ResultVar → (List SV → List Upd → Rd Eff) → Rd Eff
  | [], f => f [] []
  | .tmp t :: r, f => rdS (.tmp t) fun sv => match sv with
    | .c y => takeRow false [y] fun x us => resRd P r fun svs vs => f (x :: svs) (us ++ vs)
    | .agg row => takeRow true row fun x us => resRd P r fun svs vs => f (x :: svs) (us ++ vs)
    | .tup _ => fail
  | .cell a ty :: r, f => match tinfo P ty with
    | none => fail
    | some i => rdS (.tmp a) fun sv => match sv with
      | .c (.ptr ⟨.obj k, c, []⟩) => .kind k fun kd => match kd with
        | some (.box m) => if c + i.size ≤ m ∧ (i.agg = true ∨ i.size = 1) then readCells k c i.size fun row => takeRow i.agg row fun x us => resRd P r fun svs vs => f (x :: svs) (us ++ vs) else fail
        | _ => fail
      | _ => fail
def pack : List SV → SV
  | [x] => x
  | l => .tup l
def outOK : Nat → List AR → St → Prop
  | _, [], _ => True
  | k, .box row :: l, s => lk k s.ob = some row ∧ row.all C.data = true ∧ outOK (k + 1) l s
  | k, .virt x :: l, s => lk k s.ob = none ∧ lk k s.vi = some (.t x) ∧ outOK (k + 1) l s
  | k, .map es :: l, s => lk k s.mp = some es ∧ outOK (k + 1) l s
def fnPost (P : Program) (ts : List ResultVar) (res : SV) (out : List AR) (s : St) : Prop :=
  (resRd P ts fun svs us => if distinct (keysOf us) then .ret ⟨pack svs = res, us⟩ else fail).go s [] fun e _ => e.ok ∧ outOK 0 out (s.upds e.upd)

def packV : List Value → Value
  | [v] => v
  | vs => .tuple vs.toArray
def rvRuns (P : Program) (w : World) (tmps : Array Value) (rv : ResultVar) (v : Value) : Prop :=
  (match rv with
    | .tmp t => pure (tmps.getD t undef)
    | .cell a t => do loadVar t (← asAddr (tmps.getD a undef)) : Sem Value).run P w = .ok v w
theorem mapM_runs {α : Type} {P : Program} {w : World} (f : α → Sem Value) : ∀ {l : List α} {vs : List Value}, F2 (fun x v => (f x).run P w = .ok v w) l vs → (l.mapM f).run P w = .ok vs w
  | [], _, h => by cases h; simp
  | x :: l, _, h => by
    cases h with
    | cons h t => simp only [List.mapM_cons, Sem.run_bind, h, Result.andThen_ok, mapM_runs f t, Sem.run_pure]
theorem run_results {P : Program} {fn : Func} {tmps : Array Value} {w : World} {vs : List Value} (h : F2 (rvRuns P w tmps) fn.results.toList vs) : (results fn tmps).run P w = .ok (packV vs) w := by
  unfold results
  have he : fn.results = fn.results.toList.toArray := by simp
  rw [he]
  simp only [List.mapM_toArray, Sem.run_bind, Sem.run_map]
  rw [mapM_runs (vs := vs) _ (h.mono fun x v hx => by unfold rvRuns at hx; cases x <;> exact hx)]
  simp only [Result.andThen_ok]
  rcases vs with _ | ⟨v, _ | ⟨u, vs⟩⟩
  · simp [packV]
  · simp [packV]
  · simp [packV]

/-- A result as it stands before it is taken. -/
def RVok (P : Program) (σ : Sg) (rv : ResultVar) (sv : SV) : Prop :=
  (∀ row, sv.row = some row → ∀ y ∈ row, y.isOwn = false) ∧ ∀ (E : Env) (tmps : Array Value) (w : World) (g : Gh), E.P = P → Core E σ tmps w g →
    (∀ r ∈ sv.roots, σ.ex r) ∧ ∃ v, rvRuns P w tmps rv v ∧ SVRep w g σ.dirty .ret 0 sv v
inductive ResT (P : Program) (σ : Sg) : List ResultVar → List SV → List C → List C → List Upd → Prop where
  | nil : ResT P σ [] [] [] [] []
  | c {t r y x us svs l l' vs} (hy : RVok P σ t (.c y)) (ht : TkL σ [y] [.t x] us) (h : ResT P σ r svs l l' vs) : ResT P σ (t :: r) (.c (.t x) :: svs) (y :: l) (.t x :: l') (us ++ vs)
  | agg {t r row us svs l l' vs} {xs : List T} (hy : RVok P σ t (.agg row)) (ht : TkL σ row (xs.map C.t) us) (h : ResT P σ r svs l l' vs) : ResT P σ (t :: r) (.agg (xs.map C.t) :: svs) (row ++ l) (xs.map C.t ++ l') (us ++ vs)
theorem ResT.tk {P : Program} {σ : Sg} {ts : List ResultVar} {svs : List SV} {l l' : List C} {us : List Upd} (h : ResT P σ ts svs l l' us) : TkL σ l l' us := by
  induction h with
  | nil => exact .nil
  | c hy ht h ih => exact ht.append ih
  | agg hy ht h ih => exact ht.append ih
theorem takeRow_ok {σ : Sg} {agg : Bool} {row : List C} {f : SV → List Upd → Rd Eff} (h : ((takeRow agg row f).run σ).ok) : ∃ xs us, TkL σ row (xs.map C.t) us ∧ ((agg = true ∧ (takeRow agg row f).run σ = (f (.agg (xs.map C.t)) us).run σ) ∨
    (agg = false ∧ ∃ x, xs = [x] ∧ (takeRow agg row f).run σ = (f (.c (.t x)) us).run σ)) := by
  unfold takeRow at h ⊢
  obtain ⟨xs, us, h1, h2⟩ := takeL_ok h
  rw [h2] at h ⊢
  refine ⟨xs, us, h1, ?_⟩
  cases agg with
  | true => exact .inl ⟨by simp, rfl⟩
  | false =>
    right
    simp only [Bool.false_eq_true, if_false] at h ⊢
    rcases xs with _ | ⟨x, _ | ⟨z, xs⟩⟩
    · exact h.elim
    · exact ⟨by simp, x, rfl, rfl⟩
    · exact h.elim
theorem resRd_row {P : Program} {σ : Sg} {rv : ResultVar} {ts : List ResultVar} {agg : Bool} {row : List C} {f : List SV → List Upd → Rd Eff}
    (ih : ∀ {f : List SV → List Upd → Rd Eff}, ((resRd P ts f).run σ).ok → ∃ svs l l' us, ResT P σ ts svs l l' us ∧ (resRd P ts f).run σ = (f svs us).run σ)
    (hrv : (agg = true → RVok P σ rv (.agg row)) ∧ (agg = false → ∀ y, row = [y] → RVok P σ rv (.c y)))
    (h : ((takeRow agg row fun x us => resRd P ts fun svs vs => f (x :: svs) (us ++ vs)).run σ).ok) :
    ∃ svs l l' us, ResT P σ (rv :: ts) svs l l' us ∧ (takeRow agg row fun x us => resRd P ts fun svs vs => f (x :: svs) (us ++ vs)).run σ = (f svs us).run σ := by
  obtain ⟨xs, us, h1, h2⟩ := takeRow_ok h
  rcases h2 with ⟨ha, h2⟩ | ⟨ha, x, rfl, h2⟩
  · rw [h2] at h ⊢
    obtain ⟨svs, l, l', vs, h3, h4⟩ := ih h
    exact ⟨_, _, _, _, .agg (hrv.1 ha) h1 h3, h4⟩
  · rw [h2] at h ⊢
    obtain ⟨svs, l, l', vs, h3, h4⟩ := ih h
    have hlen := h1.length
    simp at hlen
    obtain ⟨y, rfl⟩ : ∃ y, row = [y] := List.length_eq_one_iff.1 hlen.symm
    exact ⟨_, _, _, _, .c (hrv.2 ha y rfl) h1 h3, h4⟩
theorem tmp_rv {P : Program} {σ : Sg} {t : Tmp} {sv : SV} (h : (σ.slot t).alias (σ.rt t) = sv) : RVok P σ (.tmp t) sv := by
  subst h
  refine ⟨fun row hrow y hy => ?_, fun E tmps w g _ hc => ⟨fun r hr => ?_, tmps.getD t undef, rfl, (hc.slots t).alias (hc.flat t) .ret⟩⟩
  · cases hs : σ.slot t with
    | c x => rw [hs] at hrow; cases hrow; simp at hy; subst hy; exact C.alias_isOwn _ _
    | agg l =>
      rw [hs] at hrow; cases hrow
      obtain ⟨j, hj⟩ := List.getElem?_of_mem hy
      obtain ⟨z, _, e⟩ := aliasFrom_get hj
      rw [e]; exact C.alias_isOwn _ _
    | tup l => rw [hs] at hrow; cases hrow
  · rcases SV.alias_roots _ _ r hr with h | h
    · rw [h]; exact σ.rt_ex t
    · exact hc.liveS t r h
theorem box_cells {E : Env} {σ : Sg} {tmps : Array Value} {w : World} {g : Gh} (hc : Core E σ tmps w g) {k m c n : Nat} (hk : σ.kind k = some (.box m)) (hle : c + n ≤ m) : ∃ vs : Nat → Value, ∀ j, j < n →
    w.cell? ⟨(g.bl k).1, (g.bl k).2.1 + c + j, none⟩ = some (vs j) ∧ CRep w g σ.dirty ⟨.obj k, c + j, []⟩ (σ.cell k (c + j)) (vs j) := by
  obtain ⟨cs, el, b1, b2, b3, b4, b5⟩ := hc.objs k _ hk
  have hch : ∀ j, ∃ u, j < n → cs[(g.bl k).2.1 + (c + j)]? = some u ∧ CRep w g σ.dirty ⟨.obj k, c + j, []⟩ (σ.cell k (c + j)) u := by
    intro j
    by_cases e : j < n
    · obtain ⟨u, h1, h2⟩ := b5 (c + j) (by omega)
      exact ⟨u, fun _ => ⟨h1, h2⟩⟩
    · exact ⟨undef, fun e' => absurd e' e⟩
  refine ⟨fun j => choose (hch j), fun j hj => ?_⟩
  obtain ⟨h1, h2⟩ := choose_spec (hch j) hj
  exact ⟨by rw [cell_of b1, Nat.add_assoc]; exact h1, h2⟩
theorem box_row_ok {E : Env} {σ : Sg} {tmps : Array Value} {w : World} {g : Gh} (hc : Core E σ tmps w g) {k m c n : Nat} (hk : σ.kind k = some (.box m)) : (∀ y ∈ (List.range n).map fun j => (σ.cell k (c + j)).alias ⟨.obj k, c + j, []⟩, y.isOwn = false) ∧
    ∀ y ∈ (List.range n).map fun j => (σ.cell k (c + j)).alias ⟨.obj k, c + j, []⟩, ∀ r ∈ y.roots, σ.ex r := by
  refine ⟨fun y hy => ?_, fun y hy r hr => ?_⟩
  · obtain ⟨j, _, rfl⟩ := List.mem_map.1 hy
    exact C.alias_isOwn _ _
  · obtain ⟨j, _, rfl⟩ := List.mem_map.1 hy
    rcases C.alias_roots _ _ r hr with e | e
    · rw [e]; exact .inr (.inl (by rw [hk]; simp))
    · exact hc.liveC _ _ _ e
theorem cell_rv {P : Program} {σ : Sg} {a : Tmp} {ty : TypeId} {i : TI} (hi : tinfo P ty = some i) {k c m : Nat} (hs : (σ.slot a).alias (σ.rt a) = .c (.ptr ⟨.obj k, c, []⟩)) (hk : σ.kind k = some (.box m)) (hle : c + i.size ≤ m) :
    (i.agg = true → RVok P σ (.cell a ty) (.agg ((List.range i.size).map fun j => (σ.cell k (c + j)).alias ⟨.obj k, c + j, []⟩))) ∧
    (i.agg = false → ∀ y, ((List.range i.size).map fun j => (σ.cell k (c + j)).alias ⟨.obj k, c + j, []⟩) = [y] → RVok P σ (.cell a ty) (.c y)) := by
  have hptr : ∀ (E : Env) (tmps : Array Value) (w : World) (g : Gh), Core E σ tmps w g → tmps.getD a undef = .pointer (some ⟨(g.bl k).1, (g.bl k).2.1 + c, none⟩) := by
    intro E tmps w g hc
    have := (hc.slots a).alias (hc.flat a) .ret
    rw [hs] at this
    generalize tmps.getD a undef = v at this
    cases this with
    | c this =>
      obtain ⟨k', ek, hv⟩ := PRep.path_nil.1 (this.ptr_val (.inl rfl))
      cases ek
      exact hv
  refine ⟨fun ha => ⟨fun row hrow y hy => ?_, fun E tmps w g hP hc => ⟨fun r hr => ?_, ?_⟩⟩, fun ha y hy => ⟨fun row hrow z hz => ?_, fun E tmps w g hP hc => ⟨fun r hr => ?_, ?_⟩⟩⟩
  · cases hrow
    obtain ⟨j, _, rfl⟩ := List.mem_map.1 hy
    exact C.alias_isOwn _ _
  · simp only [SV.roots] at hr
    obtain ⟨z, hz, hr⟩ := C.mem_rootsL.1 hr
    exact (box_row_ok hc hk).2 z hz r hr
  · obtain ⟨vs, hvs⟩ := box_cells hc hk hle
    refine ⟨.agg ((List.range i.size).map vs).toArray, ?_, ?_⟩
    · have h1 := run_loadAt_agg (b := (g.bl k).1) (o := (g.bl k).2.1 + c) (w := w) hi ha vs (fun j hj => (hvs j hj).1)
      unfold rvRuns
      simp only [hptr E tmps w g hc]
      simpa [Instr.loadAt, Instr.sureAddr, asAddr] using h1
    · have := SVRep.agg (w := w) (g := g) (d := σ.dirty) (r := .ret) (n := 0) (row := (List.range i.size).map fun j => (σ.cell k (c + j)).alias ⟨.obj k, c + j, []⟩) vs (fun j x hj => by
        simp only [List.getElem?_map, Option.map_eq_some_iff] at hj
        obtain ⟨j', h1, rfl⟩ := hj
        have hjl := lt_of_getElem? h1
        simp at hjl
        rw [List.getElem?_range hjl] at h1
        cases h1
        exact ((hvs j hjl).2).alias _)
      simp only [List.length_map, List.length_range] at this
      exact this
  · cases hrow
    simp at hz
    subst hz
    have : z ∈ (List.range i.size).map fun j => (σ.cell k (c + j)).alias ⟨.obj k, c + j, []⟩ := by rw [hy]; simp
    obtain ⟨j, _, rfl⟩ := List.mem_map.1 this
    exact C.alias_isOwn _ _
  · have : y ∈ (List.range i.size).map fun j => (σ.cell k (c + j)).alias ⟨.obj k, c + j, []⟩ := by rw [hy]; simp
    exact (box_row_ok hc hk).2 y this r hr
  · have hlen := congrArg List.length hy
    simp at hlen
    obtain ⟨vs, hvs⟩ := box_cells hc hk hle
    obtain ⟨q1, q2⟩ := hvs 0 (by omega)
    refine ⟨vs 0, ?_, ?_⟩
    · have h1 := run_loadAt_scalar (b := (g.bl k).1) (o := (g.bl k).2.1 + c) (w := w) hi ha q1
      unfold rvRuns
      simp only [hptr E tmps w g hc]
      simpa [Instr.loadAt, Instr.sureAddr, asAddr] using h1
    · rw [hlen] at hy
      simp at hy
      rw [← hy]
      exact .c (q2.alias _)
theorem resRd_ok {P : Program} {σ : Sg} : ∀ {ts : List ResultVar} {f : List SV → List Upd → Rd Eff}, ((resRd P ts f).run σ).ok → ∃ svs l l' us, ResT P σ ts svs l l' us ∧ (resRd P ts f).run σ = (f svs us).run σ
  | [], f, h => ⟨[], [], [], [], .nil, rfl⟩
  | .tmp t :: ts, f, h => by
    simp only [resRd, rdS, Rd.run] at h ⊢
    have hrt : Vx.rt t (σ.isnew t) = σ.rt t := rfl
    rw [hrt] at h ⊢
    cases hsv : (σ.slot t).alias (σ.rt t) with
    | c y =>
      rw [hsv] at h
      simp only at h ⊢
      exact resRd_row (rv := .tmp t) resRd_ok ⟨fun e => (by cases e), fun _ z hz => by cases hz; exact tmp_rv hsv⟩ h
    | agg row =>
      rw [hsv] at h
      simp only at h ⊢
      exact resRd_row (rv := .tmp t) resRd_ok ⟨fun _ => tmp_rv hsv, fun e => (by cases e)⟩ h
    | tup l => rw [hsv] at h; exact h.elim
  | .cell a ty :: ts, f, h => by
    simp only [resRd] at h ⊢
    cases hi : tinfo P ty with
    | none => rw [hi] at h; exact h.elim
    | some i =>
      rw [hi] at h
      simp only [rdS, Rd.run] at h ⊢
      have hrt : Vx.rt a (σ.isnew a) = σ.rt a := rfl
      rw [hrt] at h ⊢
      cases hsv : (σ.slot a).alias (σ.rt a) with
      | c y =>
        rw [hsv] at h
        cases y with
        | ptr p =>
          obtain ⟨r, c, q⟩ := p
          cases r with
          | obj k =>
            cases q with
            | nil =>
              simp only [Rd.run] at h ⊢
              cases hk : σ.kind k with
              | none => rw [hk] at h; exact h.elim
              | some kd =>
                cases kd with
                | virt => rw [hk] at h; exact h.elim
                | box m =>
                  rw [hk] at h
                  simp only at h ⊢
                  by_cases hle : c + i.size ≤ m ∧ (i.agg = true ∨ i.size = 1)
                  · rw [if_pos hle] at h ⊢
                    rw [readCells_run] at h ⊢
                    exact resRd_row (rv := .cell a ty) resRd_ok (cell_rv hi hsv hk hle.1) h
                  · rw [if_neg hle] at h; exact h.elim
            | cons _ _ => exact h.elim
          | _ => exact h.elim
        | _ => exact h.elim
      | agg row => rw [hsv] at h; exact h.elim
      | tup l => rw [hsv] at h; exact h.elim

/-- Where the results' cells go. -/
def posOf : Nat → List SV → List Nat
  | _, [] => []
  | i, .c _ :: r => 64 * i :: posOf (i + 1) r
  | i, .agg row :: r => List.range' (64 * i) row.length ++ posOf (i + 1) r
  | i, .tup _ :: r => posOf (i + 1) r
theorem ResT.vals {E : Env} {σ : Sg} {tmps : Array Value} {w : World} {g : Gh} (hc : Core E σ tmps w g) {ts : List ResultVar} {svs : List SV} {l l' : List C} {us : List Upd} (h : ResT E.P σ ts svs l l' us) :
    ∃ (vsL : List Value) (vsR : List Value), F2 (rvRuns E.P w tmps) ts vsR ∧ vsL.length = l.length ∧ (∀ (j : Nat) (x : C) (u : Value), l[j]? = some x → vsL[j]? = some u → (∃ a, CRep w g σ.dirty a x u) ∧ x.isOwn = false ∧ ∀ r ∈ x.roots, σ.ex r) ∧
      ∀ (g' : Gh) (d : Dirt) (i : Nat), (∀ (j : Nat) (x : C) (u : Value) (p : Nat), l'[j]? = some x → vsL[j]? = some u → (posOf i svs)[j]? = some p → CRep w g' d ⟨.ret, p, []⟩ x u) →
        ∀ (k : Nat) (sv : SV) (v : Value), svs[k]? = some sv → vsR[k]? = some v → SVRep w g' d .ret (64 * (i + k)) sv v := by
  induction h with
  | nil => exact ⟨[], [], .nil, rfl, by simp, by simp⟩
  | @c t r y x us svs l l' vs hy ht h ih =>
    obtain ⟨vsL, vsR, h0, h1, h2, h3⟩ := ih
    obtain ⟨hown, hy⟩ := hy
    obtain ⟨hroots, v, hrun, hx⟩ := hy E tmps w g rfl hc
    refine ⟨v :: vsL, v :: vsR, .cons hrun h0, by simp [h1], fun j z u hj hu => ?_, fun g' d i hcell k sv t' hk ht' => ?_⟩
    · cases j with
      | zero =>
        simp only [List.getElem?_cons_zero, Option.some.injEq] at hj hu
        subst hj hu
        cases hx with | c hx => exact ⟨⟨_, hx⟩, hown _ rfl _ (by simp), hroots⟩
      | succ j => exact h2 j z u (by simpa using hj) (by simpa using hu)
    · cases k with
      | zero =>
        simp only [List.getElem?_cons_zero, Option.some.injEq] at hk ht'
        subst hk ht'
        exact .c (hcell 0 _ _ _ rfl rfl rfl)
      | succ k =>
        have := h3 g' d (i + 1) (fun j z u p q1 q2 q3 => hcell (j + 1) z u p (by simpa using q1) (by simpa using q2) (by simpa [posOf] using q3)) k sv t' (by simpa using hk) (by simpa using ht')
        rw [show i + (k + 1) = i + 1 + k by omega]
        exact this
  | @agg t r row us svs l l' vs xs hy ht h ih =>
    obtain ⟨vsL, vsR, h0, h1, h2, h3⟩ := ih
    obtain ⟨hown, hy⟩ := hy
    obtain ⟨hroots, v, hrun, hx⟩ := hy E tmps w g rfl hc
    have hroots' : ∀ y ∈ row, ∀ q ∈ y.roots, σ.ex q := fun y hyr q hq => hroots q (by simp only [SV.roots]; exact C.mem_rootsL.2 ⟨y, hyr, hq⟩)
    cases hx with
    | agg vs0 hx =>
      have hlen : xs.length = row.length := by have := ht.length; simpa using this
      refine ⟨(List.range row.length).map vs0 ++ vsL, _ :: vsR, .cons hrun h0, by simp [h1], fun j z u hj hu => ?_, fun g' d i hcell k sv t' hk ht' => ?_⟩
      · by_cases hlt : j < row.length
        · rw [List.getElem?_append_left hlt] at hj
          rw [List.getElem?_append_left (by simpa using hlt)] at hu
          simp [hlt] at hu
          subst hu
          exact ⟨⟨_, hx j z hj⟩, hown _ rfl z (List.mem_of_getElem? hj), hroots' z (List.mem_of_getElem? hj)⟩
        · rw [List.getElem?_append_right (by omega)] at hj
          rw [List.getElem?_append_right (by simp; omega)] at hu
          simp only [List.length_map, List.length_range] at hu
          exact h2 _ z u hj hu
      · cases k with
        | zero =>
          simp only [List.getElem?_cons_zero, Option.some.injEq] at hk ht'
          subst hk ht'
          have := SVRep.agg (w := w) (g := g') (d := d) (r := .ret) (n := 64 * (i + 0)) (row := xs.map C.t) vs0 (fun j z hj => by
            have hlt := lt_of_getElem? hj
            simp only [List.length_map] at hlt
            refine hcell j z (vs0 j) _ ?_ ?_ ?_
            · rw [List.getElem?_append_left (by simpa using hlt)]; exact hj
            · have hlt' : j < row.length := by omega
              rw [List.getElem?_append_left (by simpa using hlt')]; simp [hlt']
            · simp only [posOf, List.length_map]
              rw [List.getElem?_append_left (by simpa using hlt), List.getElem?_range' hlt]
              simp)
          rw [List.length_map, hlen] at this
          exact this
        | succ k =>
          have := h3 g' d (i + 1) (fun j z u p q1 q2 q3 => hcell (row.length + j) z u p (by rw [List.getElem?_append_right (by simp [hlen])]; simpa [hlen] using q1) (by rw [List.getElem?_append_right (by simp)]; simpa using q2)
            (by simp only [posOf]; rw [List.getElem?_append_right (by simp [hlen])]; simpa [hlen] using q3)) k sv t' (by simpa using hk) (by simpa using ht')
          rw [show i + (k + 1) = i + 1 + k by omega]
          exact this
end Vx
