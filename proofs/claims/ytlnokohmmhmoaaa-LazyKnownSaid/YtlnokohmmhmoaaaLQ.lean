/-
  lazy: what is asked, as one message; what the fetch gets next, and takes.
-/
import Derived.Test.YtlnokohmmhmoaaaLOwn
import Derived.Test.YtlnokohmmhmoaaaLEq
import Derived.LaidEqlPtr
namespace Go.Proofs.Ytlnokohmmhmoaaa
open Go.RowKit
set_option linter.unusedSimpArgs false

instance : Inhabited Dt := ⟨⟨0, 0, 0, [], 0, false⟩⟩
def qD (f : F) : Dt := (f.docs[(nextF f).toNat]?).getD default
/-- The question of a fetch (f: behind Ask; g: ahead of it). -/
structure Qn (g f : F) (too kd op doc off : Int) : Prop where
  too : too = if f.frm < 0 then -1 else f.frm
  kd : kd = if f.frm < 0 then 14 else 16
  op : op = if f.frm < 0 then (g.least : Int) else (g.op : Int)
  doc : doc = if f.frm < 0 then 0 else ((qD f).doc : Int)
  off : off = if f.frm < 0 then 0 else ((qD f).bs.length : Int)
theorem Qn.det {g f : F} {t1 k1 o1 d1 f1 t2 k2 o2 d2 f2 : Int} (h : Qn g f t1 k1 o1 d1 f1) (h' : Qn g f t2 k2 o2 d2 f2) : t2 = t1 ∧ k2 = k1 ∧ o2 = o1 ∧ d2 = d1 ∧ f2 = f1 := ⟨h'.too.trans h.too.symm, h'.kd.trans h.kd.symm, h'.op.trans h.op.symm, h'.doc.trans h.doc.symm, h'.off.trans h.off.symm⟩
theorem Qn.none {g f : F} {too kd op doc off : Int} (h : Qn g f too kd op doc off) (hn : f.frm < 0) : too = -1 ∧ kd = 14 ∧ op = g.least ∧ doc = 0 ∧ off = 0 := by
  have h1 := h.too; have h2 := h.kd; have h3 := h.op; have h4 := h.doc; have h5 := h.off
  rw [if_pos hn] at h1 h2 h3 h4 h5
  exact ⟨h1, h2, h3, h4, h5⟩
theorem Qn.some {g f : F} {too kd op doc off : Int} (h : Qn g f too kd op doc off) (hn : 0 ≤ f.frm) {i : Nat} {d : Dt} (hi : nextF f = (i : Int)) (hd : f.docs[i]? = some d) : too = f.frm ∧ kd = 16 ∧ op = g.op ∧ doc = d.doc ∧ off = d.bs.length := by
  have h1 := h.too; have h2 := h.kd; have h3 := h.op; have h4 := h.doc; have h5 := h.off
  have hn' : ¬ f.frm < 0 := by omega
  rw [if_neg hn'] at h1 h2 h3 h4 h5
  have e : qD f = d := by
    unfold qD
    rw [hi, Int.toNat_natCast, hd]
    rfl
  rw [e] at h4 h5
  exact ⟨h1, h2, h3, h4, h5⟩
theorem ask_q {T R : Nat → Prop} {p : Nat} {f : F} {now : Nat} {w : World} (h : FIs w T R p f) (hd : doneF f = false) (hu : dueF f now = true) (ha : f.asked ≤ f.now) (hb : f.now ≤ 9223372036854775807) (hb2 : now ≤ 9223372036854775807) (hv : f.vain ≤ 1000) :
    Calls Try.prog 12 #[.pointer (some ⟨p, 0, none⟩), .int .u64 now] w fun e w' => ∃ too kd op doc off : Int, e = .returned (.tuple #[.int .i64 too, .agg #[.int .i64 kd, .int .u64 0, .int .i64 f.me, .int .u32 0, .int .u64 0, .int .u64 0, .int .u64 op, .int .u64 0, .int .u64 0, .int .u64 0, .int .u64 0, .int .u32 0, .int .u64 0, .slice none 0 0, .int .u32 doc, .int .i64 off, .int .i64 0, .bool false, .slice none 0 0, .slice none 0 0], .bool true]) ∧ Qn f (askF f now) too kd op doc off ∧ FIs w' T R p (askF f now) ∧ GrowS T w w' := by
  refine (ask_go h hd hu ha hb hb2 hv).mono ?_
  rintro e w' ⟨h1, h2, hbr⟩
  rcases hbr with ⟨hn, rfl⟩ | ⟨hp, i, d, hi, hdd, rfl⟩
  · exact ⟨-1, 14, f.least, 0, 0, rfl, ⟨by rw [if_pos hn], by rw [if_pos hn], by rw [if_pos hn], by rw [if_pos hn], by rw [if_pos hn]⟩, h1, h2⟩
  · have hn : ¬ (askF f now).frm < 0 := by omega
    have e : qD (askF f now) = d := by
      unfold qD
      rw [hi, Int.toNat_natCast, hdd]
      rfl
    exact ⟨(askF f now).frm, 16, f.op, d.doc, d.bs.length, rfl, ⟨by rw [if_neg hn], by rw [if_neg hn], by rw [if_neg hn], by rw [if_neg hn, e], by rw [if_neg hn, e]⟩, h1, h2⟩
theorem next_at {f : F} {now : Nat} (hd : doneF f = false) (hp : 0 ≤ (askF f now).frm) : ∃ (i : Nat) (d : Dt), nextF (askF f now) = (i : Int) ∧ (askF f now).docs[i]? = some d ∧ d.all = false := next_some hd hp
section
variable {w w' : World} {T R : Nat → Prop} {p : Nat} {f : F}
theorem FIs.pT (h : FIs w T R p f) : T p := by
  obtain ⟨b, Rv, V, l, h⟩ := h
  exact h.pT
theorem FIs.apart (h : FIs w T R p f) : ∀ k, T k → ¬ R k := by
  obtain ⟨b, Rv, V, l, h⟩ := h
  exact h.apart
theorem FIs.lt (h : FIs w T R p f) : p < w.heap.size := h.ltT _ h.pT
end
/-- What a fetch gets next, laid out at a block: the plan, or a piece; how the fetch is then. -/
def Next (w : World) (N : Nat → Prop) (gm : Nat) (ps : List Pt) (q : Nat) (rest : List Nat) (f f' : F) : Prop :=
  (f.frm < 0 ∧ f' = planF f 1 q rest (ps.map dcOf) ∧ ∃ A n c B m e, MsgAt w gm 15 1 q 0 0 0 (.slice A n c) (.slice B m e) ∧ PlanAt w N (.slice A n c) (.slice B m e) rest ps) ∨
  (0 ≤ f.frm ∧ ∃ zs i x d A k c, Goes ps 1 q rest f zs ∧ ps[i]? = some x ∧ f.docs[i]? = some d ∧ d.all = false ∧ f' = takeF f i d (pieceB x d.bs.length) x.bs.length ∧ MsgAt w gm 17 1 q x.doc d.bs.length x.bs.length (.slice A k c) (.slice none 0 0) ∧ BytesAt w N (.slice A k c) (pieceB x d.bs.length))
section
variable {w w' : World} {N T R : Nat → Prop} {gm p q : Nat} {ps : List Pt} {rest : List Nat} {f f' : F}
theorem Next.keep (h : Next w N gm ps q rest f f') (g : GrowS T w w') (hN : ∀ k, N k → ¬ T k) (hg : ¬ T gm) : Next w' N gm ps q rest f f' := by
  rcases h with ⟨h1, h2, A, n, c, B, m, e, h3, h4⟩ | ⟨h1, zs, i, x, d, A, k, c, h2, h3, h4, h5, h6, h7, h8⟩
  · exact .inl ⟨h1, h2, A, n, c, B, m, e, h3.keep g hg, h4.keep g hN⟩
  · exact .inr ⟨h1, zs, i, x, d, A, k, c, h2, h3, h4, h5, h6, h7.keep g hg, h8.keep g hN⟩
set_option maxRecDepth 100000 in
set_option maxHeartbeats 2000000 in
/-- The law's own taking. -/
theorem take_clo (h : FIs w T R p f) (hn : Next w N gm ps q rest f f') (hN : ∀ k, N k → ¬ T k) (hg : GoodPs ps) (hr : rest.length ≤ 300) (hop : f.least ≤ q) (hme : (1 : Int) ≠ f.me) (hh : ∀ x ∈ f.hand, x.bs.length ≤ 1000) :
    Calls Try.prog 16 #[.pointer (some ⟨p, 0, none⟩), .pointer (some ⟨gm, 0, none⟩)] w fun e w' => e = .returned (.int .i64 0) ∧ GrowS T w w' ∧ ∃ T' R' : Nat → Prop, FIs w' T' R' p f' ∧ (∀ k, T' k → T k ∨ w.heap.size ≤ k) ∧ (∀ k, R' k → R k ∨ w.heap.size ≤ k) := by
  rcases hn with ⟨h1, rfl, A, n, c, B, m, e, h3, h4⟩ | ⟨h1, zs, i, x, d, A, k, c, h2, h3, h4, h5, rfl, h7, h8⟩
  · have k0 := h3.kind
    have H := Lib.hid h; have HG := Lib.hid hg; have HR := Lib.hid hr; have HOP := Lib.hid hop; have HME := Lib.hid hme; have HH := Lib.hid hh; have H3 := Lib.hid h3; have H4 := Lib.hid h4; have HN := Lib.hid hN; have H1 := Lib.hid h1
    clear h hg hr hop hme hh h3 h4 hN h1
    go_enter Try.func16, Try.ntmps16
    go_wp2_with (refine wpList_loadM rfl rfl rfl H3.out ?_)
    refine (f_plan (op := q) H.out H1.out HOP.out HME.out (by decide) (by decide) H4.out HN.out HG.out HR.out HH.out).mono ?_
    rintro e w1 ⟨rfl, g1, T', R', F1, hT, hR⟩
    have F1 := Lib.hid F1; have hT := Lib.hid hT; have hR := Lib.hid hR; have G1 := Lib.hid g1
    clear g1
    go_wp2
    go_ret
    exact ⟨rfl, G1.out, T', R', F1.out, hT.out, hR.out⟩
  · have k0 := h7.kind
    have H := Lib.hid h; have HG := Lib.hid hg; have H7 := Lib.hid h7; have H8 := Lib.hid h8; have HN := Lib.hid hN; have H2 := Lib.hid h2; have H3 := Lib.hid h3; have H4 := Lib.hid h4; have H5 := Lib.hid h5
    clear h hg hr hop hme hh h7 h8 hN h1 h2 h3 h4 h5
    go_enter Try.func16, Try.ntmps16
    go_wp2_with (refine wpList_loadM rfl rfl rfl H7.out ?_)
    refine (f_take (zs := zs) (ps := ps) (rest := rest) H.out H2.out (by decide) HG.out H3.out H8.out HN.out).mono ?_
    rintro e w1 hpost
    obtain ⟨rfl, g1, R', f1, hR'⟩ : e = .returned (.int .i64 0) ∧ GrowS T w w1 ∧ ∃ R' : Nat → Prop, FIs w1 T R' p (takeF f i d (pieceB x d.bs.length) x.bs.length) ∧ ∀ k, R' k → R k ∨ w.heap.size ≤ k := by
      rcases hpost with ⟨c, -, -, h⟩ | ⟨d', h1, -, -, -, h2, h3, R', h4, h5⟩
      · exact absurd ⟨H5.out, rfl⟩ (h _ H4.out)
      · have h0 := H4.out
        rw [h0] at h1
        injection h1 with h1
        subst h1
        exact ⟨h2, h3, R', h4, h5⟩
    have F1 := Lib.hid f1; have hR := Lib.hid hR'; have G1 := Lib.hid g1
    clear f1 hR' g1 hpost
    go_wp2
    go_ret
    exact ⟨rfl, G1.out, T, R', F1.out, fun k hk => .inl hk, hR.out⟩
/-- A message is written over another. -/
theorem wpList_restoreM {ops : Array Oper} {rest : List Oper} {o : Oper} {a : Act} {Q : Exit → Act → World → Prop} {x y : Operand} {g : Nat} {k frm op doc off tot k0 frm0 op0 doc0 off0 tot0 : Int} {X0 Y0 : Value} {A B : Option Addr} {n c m e : Nat} (hgd : o.guard = none) (ho : o.op = .store 42 x y) (hd : o.dst = none) (hx : a.eval x = .pointer (some ⟨g, 0, none⟩)) (hy : a.eval y = .agg #[.int .i64 k, .int .u64 0, .int .i64 frm, .int .u32 0, .int .u64 0, .int .u64 0, .int .u64 op, .int .u64 0, .int .u64 0, .int .u64 0, .int .u64 0, .int .u32 0, .int .u64 0, .slice none 0 0, .int .u32 doc, .int .i64 off, .int .i64 tot, .bool false, .slice A n c, .slice B m e]) (h : MsgAt w g k0 frm0 op0 doc0 off0 tot0 X0 Y0)
    (hK : ∀ W, GrowS (fun k => k = g) w W → MsgAt W g k frm op doc off tot (.slice A n c) (.slice B m e) → wpList Try.prog ops Q rest a W) : wpList Try.prog ops Q (o :: rest) a w := by
  refine wpList_store_row hgd _ x y ho g _ hx hy _ _ h (by kernel_rfl) rfl msg_oc ?_
  rw [hd]
  exact hK _ (GrowS.setRow (T := fun k => k = g) w rfl _) (setRow_heap w g _ _ _ _ h)
end
/-- The copy, or the fetch itself. -/
def Twin (w : World) (b p gp : Nat) (T R : Nat → Prop) (f : F) : Prop :=
  gp = p ∨ (gp ≠ p ∧ ∃ T2 R2 : Nat → Prop, FIs w T2 R2 gp f ∧ (∀ k, T2 k → b ≤ k) ∧ (∀ k, T k → ¬ T2 k) ∧ (∀ k, R k → ¬ T2 k) ∧ ∀ k, R2 k → ¬ T k)
theorem Twin.grow {w w' : World} {b p gp : Nat} {T R : Nat → Prop} {f : F} (h : Twin w b p gp T R f) (g : Grow w w') : Twin w' b p gp T R f := by
  rcases h with h | ⟨h, T2, R2, h1, h2⟩
  · exact .inl h
  · exact .inr ⟨h, T2, R2, h1.grow g, h2⟩
theorem Twin.step {w w' : World} {b p gp : Nat} {T R T' R' : Nat → Prop} {f : F} (h : Twin w b p gp T R f) (g : GrowS T w w') (hT : ∀ k, T' k → T k ∨ w.heap.size ≤ k) (hR : ∀ k, R' k → R k ∨ w.heap.size ≤ k) : Twin w' b p gp T' R' f := by
  rcases h with h | ⟨h, T2, R2, h1, h2, h3, h4, h5⟩
  · exact .inl h
  · have l1 := h1.ltT
    have l2 := h1.ltR
    refine .inr ⟨h, T2, R2, h1.keep g (fun k hk ht => h3 k ht hk) (fun k hk ht => h5 k hk ht), h2, fun k hk h6 => ?_, fun k hk h6 => ?_, fun k hk h6 => ?_⟩
    · rcases hT k hk with h7 | h7
      · exact h3 k h7 h6
      · have := l1 k h6; omega
    · rcases hR k hk with h7 | h7
      · exact h4 k h7 h6
      · have := l1 k h6; omega
    · rcases hT k h6 with h7 | h7
      · exact h5 k hk h7
      · have := l2 k hk; omega
theorem Twin.copy {w w' : World} {b p p2 : Nat} {T R T2 : Nat → Prop} {f : F} (h : FIs w T R p f) (h2 : FIs w' T2 R p2 f) (hT : ∀ k, T2 k → w.heap.size ≤ k) (hb : b ≤ w.heap.size) : Twin w' b p p2 T R f := by
  have l1 := h.ltT
  have l2 := h.ltR
  have l3 := h.lt
  have l4 := hT _ h2.pT
  refine .inr ⟨by omega, T2, R, h2, fun k hk => Nat.le_trans hb (hT k hk), fun k hk h6 => ?_, fun k hk h6 => ?_, fun k hk h6 => h.apart k h6 hk⟩
  · have := l1 k hk; have := hT k h6; omega
  · have := l2 k hk; have := hT k h6; omega
theorem size_fetch : ∃ j, Try.prog.info? 66 = some j ∧ j.size ≠ 0 := by
  have h : (Try.prog.info? 66).map (·.size) = some 12 := by kernel_rfl
  obtain ⟨j, h1, h2⟩ := Option.map_eq_some_iff.1 h
  exact ⟨j, h1, by omega⟩
/-- Two fetches by their pointers. -/
theorem neq_fetch {w : World} {p g : Nat} {T R T2 R2 : Nat → Prop} {f f2 : F} (h : FIs w T R p f) (h2 : FIs w T2 R2 g f2) (hne : g ≠ p) : (binOp .neq 32 (.pointer (some ⟨g, 0, none⟩)) (.pointer (some ⟨p, 0, none⟩))).run Try.prog w = .ok (.bool true) w := by
  obtain ⟨j, hj, hs⟩ := size_fetch
  obtain ⟨b, Rv, V, l, h⟩ := h
  obtain ⟨b2, Rv2, V2, l2, h2⟩ := h2
  have e : ∀ d : Nat, (Op.equalIn (d + 1) 32 (.pointer (some ⟨g, 0, none⟩)) (.pointer (some ⟨p, 0, none⟩))).run Try.prog w = .ok false w := fun d => by
    simp [Op.equalIn, run_underlying Try.underlying32, sizeOf, typeInfo, hj, hs, run_sameAddr_other w (a := ⟨g, 0, none⟩) (b := ⟨p, 0, none⟩) (fun e => hne (by injection e)) h2.st h.st]
  simp only [binOp]
  simp [Op.equal, Op.maxDepth, e 9999]
theorem neq_self {w : World} (p : Nat) : (binOp .neq 32 (.pointer (some ⟨p, 0, none⟩)) (.pointer (some ⟨p, 0, none⟩))).run Try.prog w = .ok (.bool false) w := by
  obtain ⟨j, hj, -⟩ := size_fetch
  have e : ∀ d : Nat, (Op.equalIn (d + 1) 32 (.pointer (some ⟨p, 0, none⟩)) (.pointer (some ⟨p, 0, none⟩))).run Try.prog w = .ok true w := fun d => by
    simp [Op.equalIn, run_underlying Try.underlying32, sizeOf, typeInfo, hj, run_sameAddr_same]
  simp only [binOp]
  simp [Op.equal, Op.maxDepth, e 9999]
theorem Twin.neq {w : World} {b p gp : Nat} {T R : Nat → Prop} {f f' : F} (h : Twin w b p gp T R f) (h' : FIs w T R p f') : (binOp .neq 32 (.pointer (some ⟨gp, 0, none⟩)) (.pointer (some ⟨p, 0, none⟩))).run Try.prog w = .ok (.bool (decide (gp ≠ p))) w := by
  rcases h with rfl | ⟨h, T2, R2, h1, -⟩
  · rw [neq_self]; simp
  · rw [neq_fetch h' h1 h]; simp [h]
theorem Twin.is {w : World} {b p gp : Nat} {T R : Nat → Prop} {f : F} (h : Twin w b p gp T R f) (h' : FIs w T R p f) : ∃ T2 R2, FIs w T2 R2 gp f := by
  rcases h with rfl | ⟨h, T2, R2, h1, -⟩
  · exact ⟨T, R, h'⟩
  · exact ⟨T2, R2, h1⟩
end Go.Proofs.Ytlnokohmmhmoaaa

