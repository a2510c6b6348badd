/- The row of FnExactCountActions: for all arguments it returns true, and its arguments read as they did. No condition. -/
import Derived.Test.YtjfpbaknhaikmaaRows
import Derived.WalkKit
import Derived.ProofKit
import Derived.OpenShut
import Derived.ShutString
import Derived.ChangeOld
import Derived.Below
import Derived.SizedLaws
import Derived.Deep.Slices
import Derived.Carry
import Derived.Test.YtjfpbaknhaikmaaC1
import Derived.Test.YtjfpbaknhaikmaaC2
import Derived.Test.YtjfpbaknhaikmaaC3
import Derived.Test.YtjfpbaknhaikmaaC4
open Go Vx
namespace YtjfpbaknhaikmaaVxEv
open Go.Proofs
set_option maxRecDepth 100000
set_option linter.unusedSimpArgs false
set_option linter.unusedVariables false
def allFz : Gh := ⟨fun _ => .frozen, fun _ => undef, fun _ => (0, 0, 0), maxLen⟩
theorem co63 : Try.prog.cellsOf 63 = 4 := by kernel_rfl
theorem co3 : Try.prog.cellsOf 3 = 1 := by kernel_rfl
theorem cell_parts {w : World} {a : Addr} {v : Value} (h : w.cell? a = some v) : a.spot = none ∧ ∃ cs el fr, w.heap[a.block]? = some (.cells cs el fr) ∧ cs[a.off]? = some v := by
  unfold World.cell? at h
  split at h
  · rename_i c el fr hh
    split at h
    · cases h
    · rename_i hs
      exact ⟨by simpa using hs, c, el, fr, hh, h⟩
  · cases h
theorem entry_events {H : Type} {enc : TypeId × Value → H} {W : World} {sp : Nat → Bool} {held : Bool} {base : Nat} {v : Value} {d : DataW H} {p : List MemPlace} (hval : Value.okWide Try.prog W .any base 24 v) (h : DataW.Trod enc Try.prog W 0 sp held 24 v d p) :
    ∃ L : List Ev, L.length ≤ maxLen ∧ FRep W allFz (.sl false 4 (L.map evT)) v := by
  obtain ⟨pa, pl, pc, rfl⟩ := Go.WideShapes.okWide_slice Try.underlying24 hval
  obtain ⟨fuel, hf⟩ := h
  have hcells : (Value.slice pa pl pc).cells.toList = [.slice pa pl pc] := rfl
  rw [hcells] at hf
  rcases Go.Deep.open_slice Try.underlying24 hf with ⟨e, _⟩ | ⟨a, len, cap, m, n, D, Pl, e, _, hle, hmax, hm, _, hx⟩
  · cases e
    exact ⟨[], by simp, .fnil⟩
  · cases e
    have hlm : pl ≤ m := by rw [hm]; split <;> omega
    have hev : ∀ i, ∃ ev : Ev, i < pl → ∀ c, c < 4 → W.cell? ((a.add (i * 4)).add c) = some ((([ev.node, ev.action, ev.other, ev.nodes] : List Int).map (Value.int .i64)).getD c undef) := by
      intro i
      by_cases hi : i < pl
      · obtain ⟨cs, h1, h2⟩ := hx i (by omega)
        rw [co63] at h1
        obtain ⟨_, hl, hc⟩ := World.cells?_some h1
        obtain ⟨xs, n', _, _, _, hxlen, hfld⟩ := DataW.trod_struct Try.underlying63 h2
        have fld : ∀ j, j < 4 → ∃ z, cs[j]? = some (.int .i64 z) := by
          intro j hj
          have key : ∀ (f : Field), f.type = 3 → f.offset = j → (#[{ name := "Node", type := 3, offset := 0, embedded := false, tag := "", pkgPath := "", byteOffset := 0 },
        { name := "Action", type := 3, offset := 1, embedded := false, tag := "", pkgPath := "", byteOffset := 8 },
        { name := "Other", type := 3, offset := 2, embedded := false, tag := "", pkgPath := "", byteOffset := 16 },
        { name := "Nodes", type := 3, offset := 3, embedded := false, tag := "", pkgPath := "", byteOffset := 24 }] : Array Field)[j]? = some f → ∃ z, cs[j]? = some (.int .i64 z) := by
            intro f ht ho hget
            have hh := hfld j f hget
            have hxl : j < xs.length := by
              rw [hxlen]; exact hj
            rw [List.getElem?_eq_getElem hxl, ht, ho, co3] at hh
            obtain ⟨z, hz, _⟩ := DataW.trod_int Try.underlying3 hh
            refine ⟨z, ?_⟩
            have := congrArg (fun l => l[0]?) hz
            simp only [List.getElem?_take, List.getElem?_drop, Nat.add_zero] at this
            simpa using this
          match j, hj with
          | 0, _ => exact key _ rfl rfl rfl
          | 1, _ => exact key _ rfl rfl rfl
          | 2, _ => exact key _ rfl rfl rfl
          | 3, _ => exact key _ rfl rfl rfl
        obtain ⟨z0, e0⟩ := fld 0 (by omega)
        obtain ⟨z1, e1⟩ := fld 1 (by omega)
        obtain ⟨z2, e2⟩ := fld 2 (by omega)
        obtain ⟨z3, e3⟩ := fld 3 (by omega)
        refine ⟨⟨z0, z1, z2, z3⟩, fun _ c hc4 => ?_⟩
        rw [hc c hc4]
        match c, hc4 with
        | 0, _ => exact e0
        | 1, _ => exact e1
        | 2, _ => exact e2
        | 3, _ => exact e3
      · exact ⟨⟨0, 0, 0, 0⟩, fun h => absurd h hi⟩
    obtain ⟨ev, hspec⟩ := Classical.axiomOfChoice hev
    let L : List Ev := (List.range pl).map ev
    have hLl : L.length = pl := by simp [L]
    refine ⟨L, by omega, ?_⟩
    by_cases h0 : pl = 0
    · have : L = [] := List.length_eq_zero_iff.1 (by omega)
      rw [this]
      subst h0
      exact .fnil
    · have hpos : 0 < pl := by omega
      have hz := hspec 0 hpos 0 (by omega)
      simp only [Nat.zero_mul] at hz
      have hz' : W.cell? a = some (.int .i64 (ev 0).node) := by simpa [Addr.add] using hz
      obtain ⟨hsp, cs, el, fr, hh, _⟩ := cell_parts hz'
      obtain ⟨b, off, spot⟩ := a
      simp only at hsp
      subst hsp
      have hcell : ∀ i c, i < pl → c < 4 → cs[off + i * 4 + c]? = some ((([(ev i).node, (ev i).action, (ev i).other, (ev i).nodes] : List Int).map (Value.int .i64)).getD c undef) := by
        intro i c hi hc
        have := hspec i hi c hc
        rw [addr_add, addr_add, cell_of hh] at this
        exact this
      have := FRep.fz (w := W) (g := allFz) (b := b) (off := off) (cap := pc) (sz := 4) (xs := L.map evT) (cs := cs) (el := el) (fr := fr) (fun i c => (([(ev i).node, (ev i).action, (ev i).other, (ev i).nodes] : List Int).map (Value.int .i64)).getD c undef) hh rfl (by simp [L]; omega) (by simp [L, allFz]; omega)
        (fun row hr => by obtain ⟨e, _, rfl⟩ := List.mem_map.1 hr; rfl) (fun i c hi hc => hcell i c (by simpa [L] using hi) hc) (fun i row c t hr ht => by
          simp only [L, List.getElem?_map, Option.map_eq_some_iff] at hr
          obtain ⟨e, ⟨j, hj, rfl⟩, rfl⟩ := hr
          have hjl := lt_of_getElem? hj
          simp at hjl
          rw [List.getElem?_range hjl] at hj
          cases hj
          match c, ht with
          | 0, ht => cases ht; exact .int
          | 1, ht => cases ht; exact .int
          | 2, ht => cases ht; exact .int
          | 3, ht => cases ht; exact .int
          | c + 4, ht => simp [evT] at ht)
      simp only [List.length_map, hLl] at this
      exact this
theorem allFz_core {W : World} {fa : List SV} {vals : Array Value} (hs : vals.size = fa.length) (h : ∀ (n : Nat) (x : SV), fa[n]? = some x → SVRep W allFz noDirt (.slot n) 0 x (vals.getD n undef) ∧ x.flat = true ∧ x.roots = []) : Core ⟨Try.prog, 0, #[]⟩ (entrySt fa []).sg vals W allFz := by
  refine ⟨fun n => ?_, fun n => ?_, fun n r hr => ?_, fun k c r hr => ?_, fun k kd hk => ?_, fun k es hk => ?_, fun b hb => ?_, Nat.zero_le _⟩
  · show SVRep W _ noDirt (.slot n) 0 ((entrySt fa []).slot n) _
    rw [entry_slot]
    cases hn : fa[n]? with
    | none => exact .c (.t (.fro .top))
    | some z => exact (h n z hn).1
  · show ((entrySt fa []).slot n).flat = true
    rw [entry_slot]
    cases hn : fa[n]? with
    | none => rfl
    | some z => exact (h n z hn).2.1
  · have hr : r ∈ ((entrySt fa []).slot n).roots := hr
    rw [entry_slot] at hr
    cases hn : fa[n]? with
    | none => rw [hn] at hr; simp [SV.roots, C.roots] at hr
    | some z =>
      rw [hn] at hr
      simp only [Option.getD_some] at hr
      rw [(h n z hn).2.2] at hr
      cases hr
  · have hr : r ∈ ((entrySt fa []).cell k c).roots := hr
    simp [St.cell, entrySt, obsOf, visOf, lk, C.roots] at hr
  · have hk : (entrySt fa []).kind k = some kd := hk
    simp [St.kind, entrySt, obsOf, visOf, lk] at hk
  · have hk : (entrySt fa []).map k = some es := hk
    simp [St.map, entrySt, mpsOf, lk] at hk
  · exact absurd hb (Nat.not_lt_zero b)
theorem Move.below {W w' : World} {g' : Gh} (h : Move W allFz w' g') : Go.RowKit.Below W.heap.size W w' :=
  ⟨h.env.1, h.env.2.1, h.env.2.2, h.size, fun k hk => (h.keep k hk (.inl rfl)).2⟩
/-- What the walk of a law says: it returns true and changes nothing that was. -/
theorem law_calls {f : Nat} {fa : List SV} (hR : Vx.Returns ⟨Try.prog, 0, #[]⟩ f fa [] (.c (.t (.bool true))) []) {W : World} {vals : Array Value} (hs : vals.size = fa.length)
    (h : ∀ (n : Nat) (x : SV), fa[n]? = some x → SVRep W allFz noDirt (.slot n) 0 x (vals.getD n undef) ∧ x.flat = true ∧ x.roots = []) :
    Calls Try.prog f vals W fun e W' => e = .returned (.bool true) ∧ Go.RowKit.Below W.heap.size W W' := by
  obtain ⟨_, _, hrun⟩ := hR
  refine (hrun W allFz vals (by decide) hs (allFz_core hs h)).mono fun e W' he => ?_
  cases e with
  | returned v =>
    obtain ⟨g', hres, _, hm⟩ := he
    cases hres with | c hres => cases hres with | t hres => cases hres with | fro hres => cases hres; exact ⟨rfl, Move.below hm⟩
  | panicked c => exact he.elim
  | outgrown => exact he.elim
open Go.Proofs.Ytjfpbaknhaikmaa
open Go.ChangeShapes Go.WideShapes Go.ChangeAt Go.RowKit
theorem own : ownKnob Try.prog.godebug = none := by kernel_rfl
theorem lifted (hc6 : ∀ (L : List Ev) (act : Int), L.length ≤ maxLen → Vx.Returns ⟨Try.prog, 0, #[]⟩ 6 [.c (.t (.sl false 4 (L.map evT))), .c (.t (.int .i64 act))] [] (.c (.t (.bool true))) [])
    (os : Os) (started : os.Started) (H : Type) (enc : TypeId × Value → H) :
    ReturnsInHanded {} Try.checked os 6 .any (Rows.fnExactCountActionsSpec.pre6 enc Try.prog Try.f6 Rows.fnExactCountActionsRow.domain false) (Rows.fnExactCountActionsSpec.post enc Try.prog Try.f6 false true false false) := by
  refine returnsInHanded_of_change_sized (C := Try.checked) own started (by kernel_rfl) Try.func6
    (ChangeSpec.witness6 (enc := enc) (C := Try.checked) false ⟨#[], #[.slice none 0 0, .int .i64 0], []⟩ 8 (by kernel_rfl) (by kernel_rfl) (by kernel_rfl) (by kernel_rfl)) ?_
  intro W base args ds gs before hval0 hW hcnd hsz0 _
  have hval : ∀ (j : Nat) t v, Try.f6.params[j]? = some t → args[j]? = some v → Value.okWide Try.prog W .any base t v := hval0
  have hW' := hW
  obtain ⟨p, q, hA0, hV, rfl, hfz, hnd⟩ := hW
  have hA : DataW.TrodAll enc Try.prog W 0 (fun _ => true) true Try.f6.params.toList args.toList ds p := hA0
  rw [Try.params6] at hA hval
  obtain ⟨v0, vs0, d0, ds0, p0, q0, hargs, rfl, rfl, h0, r0⟩ := trodAll_cons hA
  obtain ⟨v1, vs1, d1, ds1, p1, q1, rfl, rfl, rfl, h1, r1⟩ := trodAll_cons r0
  obtain ⟨rfl, rfl, rfl⟩ := trodAll_nil r1
  obtain rfl : args = #[v0, v1] := by cases args; simp_all
  obtain ⟨rfl, rfl⟩ := trodVars_none hV
  obtain ⟨L, hL, hrep⟩ := entry_events (hval 0 24 v0 rfl rfl) h0
  obtain ⟨a1, rfl, rfl, rfl, w1⟩ := open_int Try.underlying3 (hval 1 3 v1 rfl rfl) h1
  refine (law_calls (hc6 L a1 hL) (W := W) (vals := #[v0, .int .i64 a1]) rfl (fun n x hn => ?_)).mono fun e W' ⟨he, bel⟩ => ?_
  · match n, hn with
    | 0, hn => cases hn; exact ⟨.c (.t (.fro hrep)), rfl, rfl⟩
    | 1, hn => cases hn; exact ⟨.c (.t (.fro .int)), rfl, rfl⟩
    | n + 2, hn => simp at hn
  subst he
  have hcar := Below.trod (enc := enc) (P := Try.prog) (t := 24) (by kernel_rfl) (by kernel_rfl) (of_decide_eq_true (by kernel_rfl)) (W := W) (W' := W') h0 bel (fun x hx => hA.lt x (List.mem_append.2 (.inl hx)))
  exact ⟨_, rfl, _, _, _, [], _, [], hW', trodAll_mk1 (shut_bool Try.underlying4 _), (trodAll_cons_mk hcar (trodAll_cons_mk (shut_int Try.underlying3 w1) trodAll_mk0)), rfl, bel.frame _, fun h => by cases h⟩
theorem over (hc6 : ∀ (L : List Ev) (act : Int), L.length ≤ maxLen → Vx.Returns ⟨Try.prog, 0, #[]⟩ 6 [.c (.t (.sl false 4 (L.map evT))), .c (.t (.int .i64 act))] [] (.c (.t (.bool true))) []) : Rows.fnExactCountActionsRow.holds Try.pinned (OpenSpec.ofChange Rows.fnExactCountActionsSpec) :=
  OpenClaim.holds_of_wide 6 Try.f6 rfl rfl rfl rfl rfl rfl rfl ⟨rfl, rfl, rfl, rfl, rfl⟩ rfl rfl rfl rfl rfl (by kernel_rfl) Try.func6 (by kernel_rfl)
    (of_decide_eq_true (by kernel_rfl)) (by unfold Func.isWrapper; first | (rw [if_pos (by decide +kernel)]; kernel_rfl) | (rw [if_neg (by decide +kernel)]; exact ⟨rfl, rfl⟩))
    (fun os started H enc _ => lifted hc6 os started H enc)
theorem proved : Rows.FnExactCountActionsSaid := over fun L act hL => c6 rfl (c14 rfl) (fun L act h => c15 rfl (c27 rfl) L act h) (c17 rfl) (fun L h => c16 rfl (c28 rfl) L h) (fun L h => c18 rfl (c29 rfl) L h) L act hL
end YtjfpbaknhaikmaaVxEv
namespace Go.Proofs.Ytjfpbaknhaikmaa
/-- The row, under a short name, for the claim. -/
theorem fnExactCountActions_holds : Rows.FnExactCountActionsSaid := YtjfpbaknhaikmaaVxEv.proved
end Go.Proofs.Ytjfpbaknhaikmaa
