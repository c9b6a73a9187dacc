/-
  lazy: a document comes to a fetch.
-/
import Derived.Test.YtlnokohmmhmoaaaLAsk3
import Derived.Test.YtlnokohmmhmoaaaFresh
namespace Go.Proofs.Ytlnokohmmhmoaaa
open Go.RowKit
set_option linter.unusedSimpArgs false

theorem info_part : (Try.prog.info? 73).map (fun i => (i.zero, i.size, i.bytes)) = some (some (.agg #[.int .u32 0, .int .u64 0, .int .u64 0, .slice none 0 0, .int .i64 0, .bool false]), 6, 64) := by kernel_rfl
theorem dcell_oc {x : Dt × Value} (h : x.2.oneCell' = true) : ∀ v ∈ dcell x, v.oneCell' = true := by
  intro v hv
  simp only [dcell, List.mem_cons, List.not_mem_nil, or_false] at hv
  rcases hv with rfl | rfl | rfl | rfl | rfl | rfl <;> first | rfl | exact h
theorem wpList_appD {w : World} {ops : Array Oper} {rest : List Oper} {o : Oper} {a : Act} {Q : Exit → Act → World → Prop} (hgd : o.guard = none) (s x : Operand)
    (ho : o.op = .call { callee := .builtin .append, args := #[s, x], argTypes := #[64, 64] })
    (v : Value) (n : Nat) (l : List (Dt × Value)) (hs : a.eval s = v) (hown : w.ownsRow 0 73 6 v n (l.flatMap dcell))
    (A : Option Addr) (m c : Nat) (r : List (Dt × Value)) (hx : a.eval x = .slice A m c) (hr : Lies w 6 A m c (r.flatMap dcell)) (hoc : ∀ x ∈ r, x.2.oneCell' = true) (hsum : (n + m) * 64 ≤ 140737488355328)
    (h : ∀ (A' : Option Addr) (c' : Nat) (w' : World), w'.ownsRow 0 73 6 (.slice A' (n + m) c') (n + m) ((l ++ r).flatMap dcell) → w.grownBy w' v.ownBlock → Fresh w v (.slice A' (n + m) c') →
      wpList Try.prog ops Q rest (a.put o.dst (.slice A' (n + m) c')) w') : wpList Try.prog ops Q (o :: rest) a w := by
  obtain ⟨i0, hi, hz0, hz1, hz2⟩ := info_parts info_part
  refine wpList_append_fresh w hgd s x _ ho 0 73 i0 _ 6 64 Try.underlying64 hi hz0 hz1 hz2 rfl (by decide) v n _ hs hown A m c _ hx hr (flat_oc _ fun x hx => dcell_oc (hoc x hx)) (by simp only [maxLen]; omega) hsum (Nat.zero_le _) ?_
  intro v' w' h1 h2 h3
  rw [← List.flatMap_append] at h1
  obtain ⟨A', c', rfl, h4⟩ := own_form h1
  exact h A' c' w' h1 h2 h3
theorem lies_part {w : World} {g : Nat} {e : TypeId} {d : Dt} {v : Value} (h : w.heap[g]? = some (.cells #[.int .u32 d.doc, .int .u64 d.rev, .int .u64 d.turn, v, .int .i64 d.total, .bool d.all] e (0, 0))) : Lies w 6 (some ⟨g, 0, none⟩) 1 1 ([(d, v)].flatMap dcell) := by
  refine ⟨rfl, fun h => by (cases h), Nat.le_refl _, by decide, fun a ha j u hu => ?_⟩
  injection ha with ha
  subst ha
  rw [add_none, cell_of_row w g (0 + j) _ e (0, 0) h]
  have e : [(d, v)].flatMap dcell = [.int .u32 d.doc, .int .u64 d.rev, .int .u64 d.turn, v, .int .i64 d.total, .bool d.all] := rfl
  rw [e] at hu
  simpa using hu
/-- A document more. -/
theorem FAt.push {w w2 : World} {T R : Nat → Prop} {p b base n : Nat} {f : F} {Rv V V' v : Value} {l : List (Dt × Value)} {d : Dt} (h : FAt w T R p f b Rv V l) (hv : w.ownsRow base 5 1 v n (byt d.bs)) (hvT : ∀ g, v.ownBlock = some g → ¬ T g)
    (hg : w.grownBy w2 V.ownBlock) (hf : Fresh w V V') (ho : w2.ownsRow 0 73 6 V' (l.length + 1) ((l ++ [(d, v)]).flatMap dcell)) :
    FAt (w2.setCell ⟨p, 6, none⟩ V') (fun k => T k ∨ V'.ownBlock = some k) (fun k => R k ∨ v.ownBlock = some k) p { f with docs := f.docs ++ [d] } b Rv V' (l ++ [(d, v)]) := by
  have gV : GrowS (fun k => V.ownBlock = some k) w w2 := hg.wide fun k hk => hk
  have gp : GrowS (fun k => k = p) w2 (w2.setCell ⟨p, 6, none⟩ V') := GrowS.setCell (T := fun k => k = p) w2 (p := ⟨p, 6, none⟩) rfl _
  have gall : GrowS (fun k => V.ownBlock = some k ∨ k = p) w (w2.setCell ⟨p, 6, none⟩ V') := (gV.mono fun _ h => .inl h).trans (gp.mono fun _ h => .inr h)
  have hRT : ∀ k, R k → ¬ (V.ownBlock = some k ∨ k = p) := fun k hk e => e.elim (fun e => h.apart k (h.docsT k e) hk) (fun e => by subst e; exact h.apart k h.pT hk)
  have hpv : V.ownBlock ≠ some p := fun e => row_apart h.docs h.st (by decide) p e rfl
  have st2 := gV.kept h.st hpv
  have st3 := heap_setCell_same w2 p 6 _ _ V' st2
  have hv2 : w2.ownsRow base 5 1 v n (byt d.bs) := gV.own hv fun g hg e => types_apart h.docs hv (by decide) g e hg
  have hv3 : (w2.setCell ⟨p, 6, none⟩ V').ownsRow base 5 1 v n (byt d.bs) := gp.own hv2 fun g hg e => row_apart hv2 st2 (by decide) g hg e
  have ho3 : (w2.setCell ⟨p, 6, none⟩ V').ownsRow 0 73 6 V' (l.length + 1) ((l ++ [(d, v)]).flatMap dcell) := gp.own ho fun g hg e => row_apart ho st2 (by decide) g hg e
  refine ⟨by simpa using st3, (h.hand.keep gall hRT (hRT b h.bR)).mono fun k hk => .inl hk, .inl h.bR, (h.rest.keep gall hRT).mono fun k hk => .inl hk, by simpa using ho3, fun g hg => .inr hg, by rw [List.map_append, h.map]; rfl, fun x hx => ?_, .inl h.pT, fun k hk hr => ?_, fun k hk => ?_, fun k hk => ?_⟩
  · rcases List.mem_append.1 hx with hx | hx
    · exact ((h.each x hx).keep gall hRT).mono fun k hk => .inl hk
    · simp at hx; subst hx
      exact BytesAt.own hv3 fun g hg => .inr hg
  · rcases hk with hk | hk <;> rcases hr with hr | hr
    · exact h.apart k hk hr
    · exact hvT k hr hk
    · rcases hf with hf | hf
      · exact h.apart k (h.docsT k (hf ▸ hk)) hr
      · have := hf k hk; have := h.ltR k hr; omega
    · exact types_apart ho3 hv3 (by decide) k hk hr
  · rcases hk with hk | hk
    · exact Nat.lt_of_lt_of_le (h.ltT k hk) gall.size
    · exact (ho3.lt k hk).2
  · rcases hk with hk | hk
    · exact Nat.lt_of_lt_of_le (h.ltR k hk) gall.size
    · exact (hv3.lt k hk).2
end Go.Proofs.Ytlnokohmmhmoaaa

