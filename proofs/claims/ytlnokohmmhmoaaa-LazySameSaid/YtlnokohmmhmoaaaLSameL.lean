/-
  lazy: LazySame: what lies in memory ahead of a tick.
-/
import Derived.Test.YtlnokohmmhmoaaaLSameK
namespace Go.Proofs.Ytlnokohmmhmoaaa
open Go.RowKit
set_option linter.unusedSimpArgs false

/-- The fetch at p; how many messages went, at kb; the answers, in the row ov, their bytes in blocks of N. -/
structure Lp (w : World) (b kb p q : Nat) (ps : List Pt) (rest : List Nat) (T R N : Nat → Prop) (ov : Value) (ms : List Om) (k : Nat) (f : F) : Prop where
  fis : FIs w T R p f
  tb : ∀ j, T j → b ≤ j
  kc : KAt w kb k
  kT : ¬ T kb
  kR : ¬ R kb
  kle : b ≤ kb
  row : w.ownsRow b 42 20 ov ms.length (ms.flatMap (mcell q))
  oT : ∀ g, ov.ownBlock = some g → ¬ T g ∧ ¬ R g ∧ g ≠ kb ∧ ¬ N g
  nN : ∀ j, N j → j < w.heap.size ∧ ¬ T j ∧ j ≠ kb
  told : ∀ m ∈ ms, Told w N ps rest m
  d15 : ∀ m ∈ ms, m.kd = 15 → m.doc = 0 ∧ m.off = 0 ∧ m.tot = 0
section
variable {w w' : World} {b kb p q : Nat} {ps : List Pt} {rest : List Nat} {T R N T' R' : Nat → Prop} {ov ov' : Value} {ms : List Om} {k k' : Nat} {f f' : F}
theorem KAt.lt {g : Nat} (h : KAt w g k) : g < w.heap.size := (Array.getElem?_eq_some_iff.1 h).1
theorem Lp.grow (h : Lp w b kb p q ps rest T R N ov ms k f) (g : Grow w w') : Lp w' b kb p q ps rest T R N ov ms k f :=
  ⟨h.fis.grow g, h.tb, row_grow h.kc g, h.kT, h.kR, h.kle, own_grow h.row g, h.oT, fun j hj => ⟨Nat.lt_of_lt_of_le (h.nN j hj).1 g.size, (h.nN j hj).2⟩, fun m hm => (h.told m hm).keep (g.wide NoRow) (fun _ _ k => k), h.d15⟩
theorem Lp.fstep (h : Lp w b kb p q ps rest T R N ov ms k f) (g : GrowS T w w') (h' : FIs w' T' R' p f') (hT : ∀ j, T' j → T j ∨ w.heap.size ≤ j) (hR : ∀ j, R' j → R j ∨ w.heap.size ≤ j) (hb : b ≤ w.heap.size) : Lp w' b kb p q ps rest T' R' N ov ms k f' := by
  have hk := h.kc.lt
  refine ⟨h', fun j hj => ?_, g.kept h.kc h.kT, fun hj => ?_, fun hj => ?_, h.kle, g.own h.row (fun j hj => (h.oT j hj).1), fun j hj => ⟨fun ht => ?_, fun ht => ?_, (h.oT j hj).2.2⟩, fun j hj => ⟨Nat.lt_of_lt_of_le (h.nN j hj).1 g.size, fun ht => ?_, (h.nN j hj).2.2⟩, fun m hm => (h.told m hm).keep g (fun j hj => (h.nN j hj).2.1), h.d15⟩
  · rcases hT j hj with h1 | h1
    · exact h.tb j h1
    · omega
  · rcases hT kb hj with h1 | h1
    · exact h.kT h1
    · omega
  · rcases hR kb hj with h1 | h1
    · exact h.kR h1
    · omega
  · have := (h.row.lt j hj).2
    rcases hT j ht with h1 | h1
    · exact (h.oT j hj).1 h1
    · omega
  · have := (h.row.lt j hj).2
    rcases hR j ht with h1 | h1
    · exact (h.oT j hj).2.1 h1
    · omega
  · have := (h.nN j hj).1
    rcases hT j ht with h1 | h1
    · exact (h.nN j hj).2.1 h1
    · omega
theorem Lp.kstep (h : Lp w b kb p q ps rest T R N ov ms k f) (g : GrowS (fun j => j = kb) w w') (hk : KAt w' kb k') : Lp w' b kb p q ps rest T R N ov ms k' f :=
  ⟨h.fis.keep g (fun _ hj e => h.kT (e ▸ hj)) (fun _ hj e => h.kR (e ▸ hj)), h.tb, hk, h.kT, h.kR, h.kle, g.own h.row (fun j hj => (h.oT j hj).2.2.1), h.oT, fun j hj => ⟨Nat.lt_of_lt_of_le (h.nN j hj).1 g.size, (h.nN j hj).2⟩, fun m hm => (h.told m hm).keep g (fun j hj => (h.nN j hj).2.2), h.d15⟩
/-- New messages may lie in new blocks, too. -/
theorem Lp.wideN (h : Lp w b kb p q ps rest T R N ov ms k f) {n : Nat} (hT : ∀ j, T j → j < n) (hk : kb < n) (ho : ∀ g, ov.ownBlock = some g → g < n) : Lp w b kb p q ps rest T R (fun j => N j ∨ (n ≤ j ∧ j < w.heap.size)) ov ms k f :=
  ⟨h.fis, h.tb, h.kc, h.kT, h.kR, h.kle, h.row, fun g hg => ⟨(h.oT g hg).1, (h.oT g hg).2.1, (h.oT g hg).2.2.1, fun hn => by
    rcases hn with h1 | h1
    · exact (h.oT g hg).2.2.2 h1
    · have := ho g hg; omega⟩, fun j hj => by
    rcases hj with h1 | h1
    · exact h.nN j h1
    · exact ⟨h1.2, fun ht => by have := hT j ht; omega, by omega⟩, fun m hm => (h.told m hm).mono (fun j hj => .inl hj), h.d15⟩
theorem Lp.push (h : Lp w b kb p q ps rest T R N ov ms k f) {m : Om} (ho : w'.ownsRow b 42 20 ov' (ms.length + 1) ((ms ++ [m]).flatMap (mcell q))) (g : w.grownBy w' ov.ownBlock) (hf : Fresh w ov ov') (hm : Told w N ps rest m) (hd : m.kd = 15 → m.doc = 0 ∧ m.off = 0 ∧ m.tot = 0) : Lp w' b kb p q ps rest T R N ov' (ms ++ [m]) k f := by
  have gs : GrowS (fun j => ov.ownBlock = some j) w w' := g.wide (fun j hj => hj)
  have hk := h.kc.lt
  have l1 := h.fis.ltT
  have l2 := h.fis.ltR
  refine ⟨h.fis.keep gs (fun j hj e => (h.oT j e).1 hj) (fun j hj e => (h.oT j e).2.1 hj), h.tb, gs.kept h.kc (fun e => (h.oT kb e).2.2.1 rfl), h.kT, h.kR, h.kle, by rw [List.length_append]; exact ho, fun j hj => ?_, fun j hj => ⟨Nat.lt_of_lt_of_le (h.nN j hj).1 gs.size, (h.nN j hj).2⟩, fun y hy => ?_, fun y hy => ?_⟩
  · rcases hf with h1 | h1
    · exact h.oT j (h1.symm.trans hj)
    · have h1 := h1 j hj
      exact ⟨fun ht => by have := l1 j ht; omega, fun ht => by have := l2 j ht; omega, by omega, fun hn => by have := (h.nN j hn).1; omega⟩
  · have kp : ∀ y, Told w N ps rest y → Told w' N ps rest y := fun y hy => hy.keep gs (fun j hj e => (h.oT j e).2.2.2 hj)
    rcases List.mem_append.1 hy with h1 | h1
    · exact kp y (h.told y h1)
    · rw [List.mem_singleton.1 h1]; exact kp m hm
  · rcases List.mem_append.1 hy with h1 | h1
    · exact h.d15 y h1
    · rw [List.mem_singleton.1 h1]; exact hd
/-- What is written touches nothing of it. -/
theorem Lp.aside {X : Nat → Prop} (h : Lp w b kb p q ps rest T R N ov ms k f) (g : GrowS X w w') (hT : ∀ j, T j → ¬ X j) (hR : ∀ j, R j → ¬ X j) (hk : ¬ X kb) (ho : ∀ j, ov.ownBlock = some j → ¬ X j) (hN : ∀ j, N j → ¬ X j) : Lp w' b kb p q ps rest T R N ov ms k f :=
  ⟨h.fis.keep g hT hR, h.tb, g.kept h.kc hk, h.kT, h.kR, h.kle, g.own h.row ho, h.oT, fun j hj => ⟨Nat.lt_of_lt_of_le (h.nN j hj).1 g.size, (h.nN j hj).2⟩, fun m hm => (h.told m hm).keep g hN, h.d15⟩
theorem Lp.oLt (h : Lp w b kb p q ps rest T R N ov ms k f) : ∀ g, ov.ownBlock = some g → g < w.heap.size := fun g hg => (h.row.lt g hg).2
theorem fed_last {f1 f2 f3 : F} (h1 : Pg ps f1 f2) (h2 : Pg ps f2 f3) (hf : f1.fresh = false) (hx : f2 = f1 → f3.fresh = true) : f3.fresh = true ∧ 0 ≤ f3.frm ∧ (f1.frm < 0 ∨ nF ps f3 < nF ps f1) := by
  have h3 : f3.fresh = true := by
    rcases h1 with h1 | ⟨h1, -⟩
    · exact hx h1
    · rcases h2 with rfl | ⟨h2, -⟩
      · exact h1
      · exact h2
  rcases h1.trans h2 with rfl | h4
  · rw [h3] at hf; cases hf
  · exact h4
theorem Fed.trans {least now : Nat} {hand : List Pt} {f1 f2 f3 : F} (h : Fed ps q least hand rest now f1 f2) (k : Fed ps q least hand rest now f2 f3) : Fed ps q least hand rest now f1 f3 := ⟨k.wel, h.pg.trans k.pg, k.asked.trans h.asked⟩
end
end Go.Proofs.Ytlnokohmmhmoaaa

