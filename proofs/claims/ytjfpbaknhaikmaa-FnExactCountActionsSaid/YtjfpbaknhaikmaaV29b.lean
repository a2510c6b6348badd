import Derived.Test.YtjfpbaknhaikmaaV29
import Derived.Great.BuildSlice
namespace Vx
open Go Classical
set_option linter.unusedSimpArgs false
set_option linter.unusedVariables false

/-- A new slice, in a new block. -/
theorem Core.newslice {E : Env} {σ : Sg} {tmps : Array Value} {w : World} {g : Gh} (hc : Core E σ tmps w g) {d : Nat} (hd : d < tmps.size) (hn : σ.isnew d = false) {xs : List (List T)} {sz cap : Nat} {cs : Array Value} {el : TypeId} (vs : Nat → Nat → Value)
    (hsize : cs.size = cap * sz) (hcap : xs.length ≤ cap) (hlim : xs.length ≤ g.lim) (hrow : ∀ row ∈ xs, row.length = sz) (hcell : ∀ i c, i < xs.length → c < sz → cs[i * sz + c]? = some (vs i c))
    (hrec : ∀ (i : Nat) (row : List T) (c : Nat) (t : T), xs[i]? = some row → row[c]? = some t → Rep w g ⟨.new d, 0, [⟨i, sz, c⟩]⟩ t (vs i c)) :
    ∃ g', Core E (σ.upd (.slot d (.c (.t (.sl true sz xs))))) (tmps.setIfInBounds d (.slice (some ⟨w.heap.size, 0, none⟩) xs.length cap)) (w.alloc (.cells cs el (0, 0))) g' ∧ Move w g (w.alloc (.cells cs el (0, 0))) g' := by
  let hdr : Value := .slice (some ⟨w.heap.size, 0, none⟩) xs.length cap
  let hdf : CA → Value := fun a => if a = ⟨.new d, 0, []⟩ then hdr else g.hd a
  have hex : ∀ r c p, σ.ex r → hdf ⟨r, c, p⟩ = g.hd ⟨r, c, p⟩ := by
    intro r c p hr
    simp only [hdf]
    rw [if_neg]
    intro e
    cases e
    simp [Sg.ex, hn] at hr
  have hc1 := hc.fresh (ob := .cells cs el (0, 0)) (tag := .own ⟨.new d, 0, []⟩) (hd := hdf) (bl := g.bl) hex (fun _ _ => rfl)
  refine ⟨_, hc1.put hn (.c (.t ?_)) (by simp [SV.roots, C.roots]) rfl (.inl hd), fresh_move (w := w) (ob := .cells cs el (0, 0)) fun _ _ => rfl⟩
  refine .own (off := 0) (cs := cs) (el := el) vs ?_ (plus_new _ _) ?_ (by simpa using hsize) hcap hlim hrow (fun i c h1 h2 => by rw [Nat.zero_add]; exact hcell i c h1 h2) fun i row c t h1 h2 => ?_
  · simp [Gh.fresh, hdf, hdr]
  · simp [Gh.fresh]
  · refine (hrec i row c t h1 h2).fresh fun a' ha => ?_
    simp only [hdf]
    rw [if_neg]
    rintro rfl
    obtain ⟨_, _, s, e⟩ := ha
    simp at e

theorem mod_row (i sz c : Nat) (h : c < sz) : (i * sz + c) % sz = c := by
  rw [Nat.mul_comm, Nat.mul_add_mod, Nat.mod_eq_of_lt h]
theorem div_row (i sz c : Nat) (h : c < sz) : (i * sz + c) / sz = i := by
  have hpos : 0 < sz := by omega
  rw [Nat.mul_comm, Nat.mul_add_div hpos, Nat.div_eq_of_lt h]; rfl
theorem row_lt {i sz c n : Nat} (hi : i < n) (hc : c < sz) : i * sz + c < n * sz := by
  have : (i + 1) * sz ≤ n * sz := Nat.mul_le_mul_right sz hi
  rw [Nat.add_mul] at this
  omega

section
variable {E : Env} {N : Nat} {o : Oper} {σ : Sg}
theorem zero_at {w : World} {g : Gh} (hl : LIM ≤ g.lim) {z : Value} {zs : List T} (h1 : zs = z.cells.toList.map T.ofV) (h2 : z.cells.all smallC = true) {c : Nat} {t : T} {u : Value} (ht : zs[c]? = some t) (hu : z.cells[c]? = some u) (a : CA) : Rep w g a t u := by
  obtain ⟨_, q⟩ := zero_rel (w := w) (g := g) (d := noDirt) hl h1 h2 a
  have := (q c (.t t) u (by simp [ht]) hu).1
  cases this with | t h => exact h

theorem ok_makeSlice (hN : okOper N o = true) {t : TypeId} {l c : Operand} (ho : o.op = .makeSlice t l c) (h : ((astep E.P o).run σ).ok) : OpOK E N o σ ((astep E.P o).run σ).upd := by
  have hopl : okOpd l = true := okOper_opd hN (by rw [ho]; simp [Op.operands])
  have hopc : okOpd c = true := okOper_opd hN (by rw [ho]; simp [Op.operands])
  simp only [astep, ho] at h ⊢
  cases hi : tinfo E.P t with
  | none => rw [hi] at h; exact h.elim
  | some i =>
    obtain ⟨kd, agg, size, bytes, zero, fld, el⟩ := i
    cases el with
    | none => rw [hi] at h; exact h.elim
    | some e =>
      rw [hi] at h
      simp only at h ⊢
      cases hei : tinfo E.P e with
      | none => rw [hei] at h; exact h.elim
      | some ei =>
        rw [hei] at h
        simp only at h ⊢
        obtain ⟨ta, e1, ra⟩ := rdT_ok h
        rw [e1] at h ⊢
        obtain ⟨tb, e2, rb⟩ := rdT_ok h
        rw [e2] at h ⊢
        cases ta with
        | int k1 n =>
          cases tb with
          | int k2 m =>
            simp only at h ⊢
            obtain ⟨⟨h0, hnm, hlim, hby, hz2, hz1⟩, p2, p3⟩ := put_ok h
            subst hnm
            obtain ⟨inf, z, a1, a2, a3, a4, a5, a6⟩ := tinfo_zero hei hz1 hz2
            have hu := tinfo_elem hi rfl
            have hby' : ei.bytes = inf.bytes := by
              obtain ⟨inf', d', q1, _, _, q4, _⟩ := tinfo_some hei
              rw [a1] at q1; cases q1; exact q4
            intro a w g hc hs hl K Q hK
            obtain ⟨r1, hx⟩ := ra E a w g hc hl hopl
            obtain ⟨r2, hy⟩ := rb E a w g hc hl hopc
            have hvl : a.eval l = .int k1 n := by
              generalize a.eval l = v at hx
              cases hx with | fro hx => cases hx; rfl
            have hvc : a.eval c = .int k2 n := by
              generalize a.eval c = v at hy
              cases hy with | fro hy => cases hy; rfl
            obtain ⟨nn, rfl⟩ : ∃ nn : Nat, n = nn := ⟨n.toNat, by omega⟩
            have hnn : nn ≤ LIM := by omega
            have hwrap : IntKind.i64.wrap (nn : Int) = nn := by
              have : (nn : Int) ≤ 2 ^ 38 := by unfold LIM at hnn; omega
              rw [IntKind.wrap_i64]
              omega
            have hcsz : nn * ei.size = 0 ↔ nn = 0 := by
              constructor
              · intro q
                rcases Nat.mul_eq_zero.1 q with q | q
                · exact q
                · omega
              · rintro rfl; simp
            let cs : Array Value := (Array.range (nn * ei.size)).map (z.cells[· % z.cells.size]!)
            have hex : (execOp a.eval o).run E.P w = .ok (.value (.slice (some ⟨w.heap.size, 0, none⟩) nn nn)) (w.alloc (.cells cs e (0, 0))) := by
              have hw0 : ¬ ((nn : Int) < 0) := by omega
              have hbig : ¬ ((inf.bytes : Int) * (nn : Int) > 2 ^ 48) := by
                have h1 : inf.bytes * nn ≤ 256 * nn := Nat.mul_le_mul_right nn (by omega)
                have h2 : ((inf.bytes * nn : Nat) : Int) = (inf.bytes : Int) * (nn : Int) := by push_cast; rfl
                unfold LIM at hnn
                omega
              have hwl : ¬ (IntKind.i64.wrap (nn : Int) < 0) := by rw [hwrap]; exact hw0
              simp only [execOp, ho, hvl, hvc]
              have hbig' : ¬ ((281474976710656 : Int) < (inf.bytes : Int) * (nn : Int)) := by simpa using hbig
              by_cases h00 : nn * ei.size = 0
              · have hcs0 : cs = #[] := by simp [cs, h00]
                rw [hcs0]
                simp [Instr.makeSlice, run_underlying hu, asInt, asIntOf, typeInfo, a1, hwrap, hw0, hbig', Go.sizeOf, a5, zeroValue, a2, newRow, h00]
                have e0 : ∀ f : Nat → Value, Array.map f (Array.range 0) = #[] := fun f => Array.size_eq_zero_iff.1 (by simp)
                rw [e0]
              · simp [Instr.makeSlice, run_underlying hu, asInt, asIntOf, typeInfo, a1, hwrap, hw0, hbig', Go.sizeOf, a5, zeroValue, a2, newRow, h00, cs]
            unfold Oper.wp
            rw [hex, Oper.upon_value]
            have hsize : cs.size = nn * ei.size := by simp [cs]
            have hcell : ∀ i c, i < nn → c < ei.size → cs[i * ei.size + c]? = some (z.cells.getD c undef) := by
              intro i c hi hc'
              have hlt := row_lt hi hc'
              have hcz : c < z.cells.size := by omega
              simp only [cs]
              rw [Array.getElem?_map]
              simp [hlt, a6, mod_row i ei.size c hc', Array.getD_eq_getD_getElem?, getElem!_pos z.cells c hcz, Array.getElem?_eq_getElem hcz]
            cases hd : o.dst with
            | none =>
              obtain ⟨e3, _⟩ := p3 hd
              refine hK _ _ _ ?_ (fresh_move (w := w) (g := g) (ob := .cells cs e (0, 0)) (tag := .other) (hd := g.hd) (bl := g.bl) fun _ _ => rfl) hs rfl
              rw [e3]
              exact hc.fresh (fun _ _ _ _ => rfl) (fun _ _ => rfl)
            | some d =>
              obtain ⟨hn, e3, _⟩ := p2 d hd
              obtain ⟨g', hc', hm⟩ := hc.newslice (d := d) (by rw [hs]; exact dst_lt hN hd) hn (xs := List.replicate nn ei.zero) (sz := ei.size) (cap := nn) (cs := cs) (el := e) (fun _ c => z.cells.getD c undef) hsize (by simp) (by simp; omega) (fun row hr => by rw [(List.mem_replicate.1 hr).2]; exact hz1)
                (fun i c hi hc' => hcell i c (by simpa using hi) hc') (fun i row c t hr ht => by
                  have hrow : row = ei.zero := (List.mem_replicate.1 (List.mem_of_getElem? hr)).2
                  subst hrow
                  have hlt := lt_of_getElem? ht
                  have hcz : c < z.cells.size := by omega
                  exact zero_at hl a3 a4 ht (by simp [Array.getD_eq_getD_getElem?, hcz]) _)
              simp only [List.length_replicate] at hc'
              refine hK _ _ g' ?_ hm (by simpa [Act.put] using hs) rfl
              rw [e3]
              exact hc'
          | _ => exact h.elim
        | _ => exact h.elim
end
end Vx
