/-
  lazy: how far a fetch is, where nothing is lost.
-/
import Derived.Test.YtlnokohmmhmoaaaLOwn
namespace Go.Proofs.Ytlnokohmmhmoaaa
open Go.RowKit
set_option linter.unusedSimpArgs false

structure FewInv (gf : Nat → Bool) (ps : List Pt) (q : Nat) (rest : List Nat) (asks : Nat) (f : F) : Prop where
  me : f.me = 0
  least : f.least = 0
  hand : f.hand = ownJ gf ps ps.length
  vain : f.vain = 0
  now : f.now = 0
  asked : f.asked = 0
  fresh : f.fresh = true
  goes : (asks = 0 ∧ f.frm = -1) ∨ (1 ≤ asks ∧ f.frm = 1 ∧ ∃ zs, Goes ps 1 q rest f zs ∧ NotOwn (ownJ gf ps ps.length) zs ∧ asks + needs zs = wantJ gf ps ps.length)
  dl : f.docs.length ≤ 20
section
variable {gf : Nat → Bool} {ps : List Pt} {q asks : Nat} {rest : List Nat} {f : F}
theorem FewInv.start : FewInv gf ps q rest 0 (newF 0 0 (ownJ gf ps ps.length)) := ⟨rfl, rfl, rfl, rfl, rfl, rfl, rfl, .inl ⟨rfl, rfl⟩, Nat.zero_le _⟩
theorem FewInv.ask (h : FewInv gf ps q rest asks f) : askF f 0 = { f with now := 0, asked := 0, fresh := false } := by
  rw [askF_fresh 0 h.fresh h.vain, h.now]
  rfl
theorem FewInv.le (h : FewInv gf ps q rest asks f) (hg : GoodPs ps) : asks ≤ 101 := by
  have h1 := wantJ_le (g := gf) hg.bs ps.length
  have h2 := hg.len
  rcases h.goes with ⟨h3, -⟩ | ⟨-, -, zs, -, -, h3⟩ <;> omega
theorem FewInv.done (h : FewInv gf ps q rest asks f) (hd : doneF f = true) : asks = wantJ gf ps ps.length := by
  rcases h.goes with ⟨-, h3⟩ | ⟨-, -, zs, h1, -, h3⟩
  · have := (doneF_all hd).1
    omega
  · rw [h1.doneNeeds hd] at h3
    exact h3
theorem FewInv.plan (h : FewInv gf ps q rest asks f) (hg : GoodPs ps) (hneg : f.frm < 0) : FewInv gf ps q rest (asks + 1) (planF (askF f 0) 1 q rest (ps.map dcOf)) := by
  have h0 : asks = 0 := by
    rcases h.goes with ⟨h3, -⟩ | ⟨-, h3, -⟩
    · exact h3
    · omega
  subst h0
  rw [h.ask]
  refine ⟨h.me, h.least, h.hand, rfl, rfl, rfl, rfl, .inr ⟨Nat.le_refl _, rfl, planZ (ownJ gf ps ps.length) ps, ?_, notOwn_plan hg.num, ?_⟩, by simp [planF]; exact hg.len⟩
  · have hz : planZ f.hand ps = planZ (ownJ gf ps ps.length) ps := by rw [h.hand]
    rw [← hz]
    exact goes_plan (ps := ps) (f := { f with now := 0, asked := 0, fresh := false }) 1 q rest (by show HandOk f.hand ps; rw [h.hand]; exact ownJ_ok hg.num _)
  · have := wants_all (g := gf) hg.num
    omega
theorem FewInv.zs (h : FewInv gf ps q rest asks f) (h0 : 0 ≤ f.frm) : f.frm = 1 ∧ ∃ zs, Goes ps 1 q rest (askF f 0) zs ∧ NotOwn (ownJ gf ps ps.length) zs ∧ asks + needs zs = wantJ gf ps ps.length := by
  rcases h.goes with ⟨-, h3⟩ | ⟨-, h1, zs, h2, h3, h4⟩
  · omega
  · rw [h.ask]
    exact ⟨h1, zs, h2.same rfl rfl rfl rfl, h3, h4⟩
theorem FewInv.take (h : FewInv gf ps q rest asks f) {zs : List (Pt × Dt)} (h1 : f.frm = 1) (h2 : Goes ps 1 q rest (askF f 0) zs) (h3 : NotOwn (ownJ gf ps ps.length) zs) (h4 : asks + needs zs = wantJ gf ps ps.length) {i : Nat} {x : Pt} {d : Dt} (hz : zs[i]? = some (x, d)) (ha : d.all = false) :
    FewInv gf ps q rest (asks + 1) (takeF (askF f 0) i d (pieceB x d.bs.length) x.bs.length) := by
  obtain ⟨g1, g2⟩ := h2.take hz ha
  rw [h.ask] at g1 ⊢
  exact ⟨h.me, h.least, h.hand, rfl, rfl, rfl, rfl, .inr ⟨by omega, h1, _, g1, h3.set hz ha, by omega⟩, by simp [takeF]; exact h.dl⟩
end
end Go.Proofs.Ytlnokohmmhmoaaa

