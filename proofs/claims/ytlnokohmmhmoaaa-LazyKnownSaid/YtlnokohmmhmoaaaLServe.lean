/-
  lazy: the calls of a node that serves a state, and of a fetch of that state, as the laws meet them.
-/
import Derived.Test.YtlnokohmmhmoaaaLLaw2
import Derived.Test.YtlnokohmmhmoaaaLAwake
import Derived.Test.YtlnokohmmhmoaaaLTakeN
namespace Go.Proofs.Ytlnokohmmhmoaaa
open Go.RowKit
set_option linter.unusedSimpArgs false

/-- A state's documents, as the laws have them. -/
structure GoodPs (ps : List Pt) : Prop where
  num : Numbered ps
  len : ps.length ≤ 20
  bs : ∀ x ∈ ps, x.bs.length ≤ 300
  wf : ∀ x ∈ ps, PWf x
theorem GoodPs.risesC {ps : List Pt} (h : GoodPs ps) : RisesC (ps.map dcOf) := fun i y x hy hx => by
  rw [List.getElem?_map] at hy hx
  cases h1 : ps[i]? with
  | none => rw [h1] at hy; cases hy
  | some a =>
    cases h2 : ps[i + 1]? with
    | none => rw [h2] at hx; cases hx
    | some b =>
      rw [h1] at hy; rw [h2] at hx
      injection hy with hy; injection hx with hx
      subst hy hx
      exact h.num.rises i a b h1 h2
theorem GoodPs.cwf {ps : List Pt} (h : GoodPs ps) : ∀ x ∈ ps.map dcOf, CWf x := fun x hx => by
  obtain ⟨y, hy, rfl⟩ := List.mem_map.1 hx
  exact ⟨(h.wf y hy).doc, (h.wf y hy).rev, (h.wf y hy).turn⟩
/-- A state in memory: its bytes lie in blocks of K. -/
structure Srv (w : World) (K : Nat → Prop) (X Y : Value) (rest : List Nat) (ps : List Pt) : Prop where
  rb : BytesAt w K X rest
  rlen : rest.length ≤ 300
  docs : ∃ B m e l, Y = .slice B m e ∧ PsAt w K B m e l ∧ l.map (·.1) = ps
  good : GoodPs ps
section
variable {w w' : World} {K K' T : Nat → Prop} {X Y : Value} {rest : List Nat} {ps : List Pt}
theorem Srv.keep (h : Srv w K X Y rest ps) (g : GrowS T w w') (hT : ∀ k, K k → ¬ T k) : Srv w' K X Y rest ps := by
  obtain ⟨B, m, e, l, h1, h2, h3⟩ := h.docs
  exact ⟨h.rb.keep g hT, h.rlen, ⟨B, m, e, l, h1, h2.keep g hT, h3⟩, h.good⟩
theorem Srv.grow (h : Srv w K X Y rest ps) (g : Grow w w') : Srv w' K X Y rest ps := h.keep (g.wide NoRow) (fun _ _ k => k)
end
/-- A plan's rows. -/
structure PlanAt (w : World) (N : Nat → Prop) (X Y : Value) (rest : List Nat) (ps : List Pt) : Prop where
  rb : BytesAt w N X rest
  docs : ∃ B m e, Y = .slice B m e ∧ Lies w 3 B m e ((ps.map dcOf).flatMap ccell) ∧ ∀ a, B = some a → 0 < m → N a.block
section
variable {w w' : World} {N N' T : Nat → Prop} {X Y : Value} {rest : List Nat} {ps : List Pt}
theorem PlanAt.keep (h : PlanAt w N X Y rest ps) (g : GrowS T w w') (hT : ∀ k, N k → ¬ T k) : PlanAt w' N X Y rest ps := by
  obtain ⟨B, m, e, h1, h2, h3⟩ := h.docs
  exact ⟨h.rb.keep g hT, B, m, e, h1, g.liesZ h2 (fun a ha h0 => hT _ (h3 a ha h0)), h3⟩
theorem PlanAt.grow (h : PlanAt w N X Y rest ps) (g : Grow w w') : PlanAt w' N X Y rest ps := h.keep (g.wide NoRow) (fun _ _ k => k)
theorem PlanAt.mono (h : PlanAt w N X Y rest ps) (hN : ∀ k, N k → N' k) : PlanAt w N' X Y rest ps := by
  obtain ⟨B, m, e, h1, h2, h3⟩ := h.docs
  exact ⟨h.rb.mono hN, B, m, e, h1, h2, fun a ha h0 => hN _ (h3 a ha h0)⟩
theorem PlanAt.form (h : PlanAt w N X Y rest ps) : ∃ A n c B m e, X = .slice A n c ∧ Y = .slice B m e := by
  obtain ⟨B, m, e, h1, -⟩ := h.docs
  obtain ⟨A, n, c, h2, -⟩ := h.rb.lies
  exact ⟨A, n, c, B, m, e, h2, h1⟩
end
theorem BytesAt.len {w : World} {R : Nat → Prop} {A : Option Addr} {n c : Nat} {bs : List Nat} (h : BytesAt w R (.slice A n c) bs) : Lies w 1 A n c (byt bs) ∧ bs.length = n ∧ ∀ a, A = some a → 0 < n → R a.block := by
  obtain ⟨A', n', c', h1, h2, h3⟩ := h.lies
  injection h1 with e1 e2 e3
  subst e1 e2 e3
  exact ⟨h2, h2.bytes_len, h3⟩
/-- Own rows of new blocks. -/
theorem own_new {w w' : World} {e : TypeId} {sz n m c : Nat} {A : Option Addr} {xs : List Value} (h : w'.ownsRow w.heap.size e sz (.slice A n c) m xs) : ∀ a, A = some a → w.heap.size ≤ a.block ∧ a.block < w'.heap.size := fun a ha => h.lt _ (own_addr h a ha)
theorem srv_plan {w : World} {K : Nat → Prop} {X Y : Value} {rest : List Nat} {ps : List Pt} {me : Int} {op : Nat} (h : Srv w K X Y rest ps) (h0 : 0 ≤ me) (h7 : me < 7) :
    Calls Try.prog 14 #[.int .i64 me, .agg #[.int .u64 op, X, Y]] w fun e w' => ∃ A n c B m d, e = .returned (.tuple #[.agg #[.int .i64 15, .int .u64 0, .int .i64 me, .int .u32 0, .int .u64 0, .int .u64 0, .int .u64 op, .int .u64 0, .int .u64 0, .int .u64 0, .int .u64 0, .int .u32 0, .int .u64 0, .slice none 0 0, .int .u32 0, .int .i64 0, .int .i64 0, .bool false, .slice A n c, .slice B m d], .int .i64 0]) ∧ PlanAt w' (fun k => w.heap.size ≤ k ∧ k < w'.heap.size) (.slice A n c) (.slice B m d) rest ps ∧ Grow w w' := by
  obtain ⟨A, n, c, rfl, hL, -⟩ := h.rb.lies
  obtain ⟨B, m, d, l, rfl, hP, hl⟩ := h.docs
  have hn := hL.bytes_len
  have hm := Lies.flat_n pcell_len (by decide) hP.row
  have hml : l.length = ps.length := by rw [← hl, List.length_map]
  have := h.good.len
  have := h.rlen
  refine (planf_ok (me := me) (op := op) h0 h7 hL hP (by rw [hl]; exact h.good.num.rises) (by omega) (by omega)).mono ?_
  rintro e w' ⟨A1, c1, B1, e1, rfl, o1, o2, g⟩
  have e : (l.map fun x => dcOf x.1) = ps.map dcOf := by rw [← hl, List.map_map]; rfl
  rw [e] at o2
  exact ⟨A1, n, c1, B1, m, e1, rfl, ⟨⟨A1, n, c1, rfl, Lies.of_own o1, fun a ha _ => own_new o1 a ha⟩, B1, m, e1, rfl, Lies.of_own o2, fun a ha _ => own_new o2 a ha⟩, g⟩
theorem f_plan {w : World} {T R N : Nat → Prop} {p op : Nat} {f : F} {frm : Int} {A B : Option Addr} {n c m d : Nat} {rest : List Nat} {ps : List Pt} (h : FIs w T R p f) (hneg : f.frm < 0) (hop : f.least ≤ op) (hme : frm ≠ f.me) (h0 : 0 ≤ frm) (h7 : frm < 7)
    (hP : PlanAt w N (.slice A n c) (.slice B m d) rest ps) (hN : ∀ k, N k → ¬ T k) (hg : GoodPs ps) (hr : rest.length ≤ 300) (hh : ∀ x ∈ f.hand, x.bs.length ≤ 1000) :
    Calls Try.prog 17 #[.pointer (some ⟨p, 0, none⟩), .agg #[.int .i64 15, .int .u64 0, .int .i64 frm, .int .u32 0, .int .u64 0, .int .u64 0, .int .u64 op, .int .u64 0, .int .u64 0, .int .u64 0, .int .u64 0, .int .u32 0, .int .u64 0, .slice none 0 0, .int .u32 0, .int .i64 0, .int .i64 0, .bool false, .slice A n c, .slice B m d]] w fun e w' => e = .returned (.int .i64 0) ∧ GrowS T w w' ∧ ∃ T' R' : Nat → Prop, FIs w' T' R' p (planF f frm op rest (ps.map dcOf)) ∧ (∀ k, T' k → T k ∨ w.heap.size ≤ k) ∧ (∀ k, R' k → R k ∨ w.heap.size ≤ k) := by
  obtain ⟨hL, hn, hA⟩ := hP.rb.len
  obtain ⟨B', m', d', h1, hC, hB⟩ := hP.docs
  injection h1 with e1 e2 e3
  subst e1 e2 e3
  have hm := Lies.flat_n ccell_len (by decide) hC
  rw [List.length_map] at hm
  have := hg.len
  exact plan_ok h hneg hop hme h0 h7 hL (fun a ha h0 => hN _ (hA a ha h0)) hC (fun a ha h0 => hN _ (hB a ha h0)) hg.risesC hg.cwf (by omega) (by omega) (fun doc turn bs hb => by
    obtain ⟨x, hx, -, -, rfl⟩ := handOf_some hb
    exact hh x hx)
theorem srv_piece {w : World} {K : Nat → Prop} {X Y : Value} {rest : List Nat} {ps : List Pt} {me frm tot : Int} {op off i : Nat} {x : Pt} (h : Srv w K X Y rest ps) (h0 : 0 ≤ me) (h7 : me < 7) (hx : ps[i]? = some x) (hoff : off ≤ x.bs.length) :
    Calls Try.prog 15 #[.int .i64 me, .agg #[.int .u64 op, X, Y], .agg #[.int .i64 16, .int .u64 0, .int .i64 frm, .int .u32 0, .int .u64 0, .int .u64 0, .int .u64 op, .int .u64 0, .int .u64 0, .int .u64 0, .int .u64 0, .int .u32 0, .int .u64 0, .slice none 0 0, .int .u32 x.doc, .int .i64 off, .int .i64 tot, .bool false, .slice none 0 0, .slice none 0 0]] w fun e w' => ∃ A k c, e = .returned (.tuple #[.agg #[.int .i64 17, .int .u64 0, .int .i64 me, .int .u32 0, .int .u64 0, .int .u64 0, .int .u64 op, .int .u64 0, .int .u64 0, .int .u64 0, .int .u64 0, .int .u32 0, .int .u64 0, .slice none 0 0, .int .u32 x.doc, .int .i64 off, .int .i64 x.bs.length, .bool false, .slice A k c, .slice none 0 0], .int .i64 0]) ∧ BytesAt w' (fun k => w.heap.size ≤ k ∧ k < w'.heap.size) (.slice A k c) (pieceB x off) ∧ Grow w w' := by
  obtain ⟨A, n, c, rfl, hL, -⟩ := h.rb.lies
  obtain ⟨B, m, d, l, rfl, hP, hl⟩ := h.docs
  have hb := h.good.bs x (List.mem_of_getElem? hx)
  have hi : idxI (fun d : Pt => decide (d.doc = x.doc)) ps = (i : Int) := by
    refine idxI_hit hx (by simp) (fun y hy => ?_)
    obtain ⟨j, hj⟩ := List.getElem?_of_mem hy
    rw [List.getElem?_take] at hj
    split at hj
    · have h1 := h.good.num j y hj
      have h2 := h.good.num i x hx
      simp
      omega
    · cases hj
  refine (piece_ok (me := me) (frm := frm) (tot := tot) (op := op) (doc := x.doc) (off := off) (i := i) (x := x) h0 h7 hP (by rw [hl]; exact hi) (by rw [hl]; exact hx) hoff (by omega)).mono ?_
  rintro e w' ⟨A1, k1, c1, rfl, o1, g⟩
  exact ⟨A1, k1, c1, rfl, ⟨A1, k1, c1, rfl, Lies.of_own o1, fun a ha _ => own_new o1 a ha⟩, g⟩
/-- A piece has come: it is taken, or nothing turns. -/
def FTook (T R : Nat → Prop) (p : Nat) (f : F) (zs : List (Pt × Dt)) (i : Nat) (x : Pt) (off : Nat) (w : World) (e : Ending) (w' : World) : Prop :=
  (∃ c : Int, e = .returned (.int .i64 c) ∧ Grow w w' ∧ ∀ d, f.docs[i]? = some d → ¬ (d.all = false ∧ off = d.bs.length)) ∨
  (∃ d, f.docs[i]? = some d ∧ zs[i]? = some (x, d) ∧ d.all = false ∧ off = d.bs.length ∧ e = .returned (.int .i64 0) ∧ GrowS T w w' ∧ ∃ R' : Nat → Prop, FIs w' T R' p (takeF f i d (pieceB x d.bs.length) x.bs.length) ∧ ∀ k, R' k → R k ∨ w.heap.size ≤ k)
theorem f_take {w : World} {T R N : Nat → Prop} {p op i off : Nat} {f : F} {frm : Int} {A B : Option Addr} {k c m d0 : Nat} {rest : List Nat} {ps : List Pt} {zs : List (Pt × Dt)} {x : Pt} (h : FIs w T R p f) (hgo : Goes ps frm op rest f zs) (h0 : 0 ≤ frm) (hg : GoodPs ps) (hx : ps[i]? = some x)
    (hb : BytesAt w N (.slice A k c) (pieceB x off)) (hN : ∀ k, N k → ¬ T k) :
    Calls Try.prog 18 #[.pointer (some ⟨p, 0, none⟩), .agg #[.int .i64 17, .int .u64 0, .int .i64 frm, .int .u32 0, .int .u64 0, .int .u64 0, .int .u64 op, .int .u64 0, .int .u64 0, .int .u64 0, .int .u64 0, .int .u32 0, .int .u64 0, .slice none 0 0, .int .u32 x.doc, .int .i64 off, .int .i64 x.bs.length, .bool false, .slice A k c, .slice B m d0]] w (FTook T R p f zs i x off w) := by
  obtain ⟨hL, hk, hA⟩ := hb.len
  rw [pieceB_len] at hk
  obtain ⟨d, hd⟩ : ∃ d, f.docs[i]? = some d := ⟨_, List.getElem?_eq_getElem (by have := hgo.len; have := (List.getElem?_eq_some_iff.1 hx).1; omega)⟩
  obtain ⟨x', h1, hz, hfit⟩ := hgo.at hd
  rw [hx] at h1
  injection h1 with h1
  subst h1
  have hdoc : x.doc = i + 1 := hg.num i x hx
  have hxb := hg.bs x (List.mem_of_getElem? hx)
  have hfl := fit_len hfit
  have e1 := hgo.frm
  have e2 := hgo.op
  by_cases ha : d.all = true
  · have := take_none (w := w) (doc := x.doc) (off := off) (tot := x.bs.length) (A := A) (B := B) (n := k) (c := c) (m := m) (e0 := d0) h (by rw [e1]; exact h0) (by rw [hdoc]; exact hgo.noplace hg.num hd ha)
    rw [e1, e2] at this
    refine this.mono ?_
    rintro e w' ⟨rfl, g⟩
    refine .inl ⟨6, rfl, g, fun d' hd' hc => ?_⟩
    rw [hd] at hd'
    injection hd' with hd'
    subst hd'
    rw [ha] at hc
    cases hc.1
  · have ha : d.all = false := by simpa using ha
    have := take_go (w := w) (doc := x.doc) (i := i) (off := off) (tot := x.bs.length) (A := A) (B := B) (n := k) (c := c) (m := m) (e0 := d0) (bs := pieceB x off) h (by rw [e1]; exact h0) (by rw [hdoc]; exact hgo.place hg.num hd ha) hd hL (fun a ha h0 => hN _ (hA a ha h0)) (by omega) (by omega)
    rw [e1, e2] at this
    refine this.mono ?_
    rintro e w' (⟨hbad, rfl, g⟩ | ⟨hgood, rfl, g, R', hF, hR⟩)
    · refine .inl ⟨30, rfl, g, fun d' hd' hc => ?_⟩
      rw [hd] at hd'
      injection hd' with hd'
      subst hd'
      have := hc.2
      subst this
      rw [fit_good hfit ha] at hbad
      cases hbad
    · have ho := fit_bad hgood
      have ho : off = d.bs.length := by omega
      subst ho
      exact .inr ⟨d, hd, hz, ha, rfl, rfl, g, R', hF, hR⟩
end Go.Proofs.Ytlnokohmmhmoaaa

