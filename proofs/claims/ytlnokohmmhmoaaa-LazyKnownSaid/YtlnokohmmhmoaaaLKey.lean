/-
  lazy: the map of what is at hand: its keys, what lies there.
-/
import Derived.Test.YtlnokohmmhmoaaaWide
import Derived.Test.YtlnokohmmhmoaaaOpen
import Derived.Test.YtlnokohmmhmoaaaRows
import Derived.Maps.OwnSet
import Derived.DeepKeys4
import Derived.MapViews
import Derived.Lib.SmallJoins
namespace Go.Proofs.Ytlnokohmmhmoaaa
open Go.RowKit
open Go.ChangeShapes Go.WideShapes Go.ChangeAt
set_option linter.unusedSimpArgs false

theorem laidOutK : laidOutB Try.prog = true := by kernel_rfl
theorem key_row : (69 : TypeId) < Try.prog.types.size := of_decide_eq_true (by kernel_rfl)
theorem key_wide : (match Try.prog.underlying 69 with | some (.array _ _) | some (.struct _) => true | _ => false) = true := by rw [Try.underlying69]
theorem key_law : Go.Maps.Keyed Try.prog 69 := Go.Maps.Keyed.of_law (deep_law_laid laidOutK (m := 3) (by omega) key_row (by kernel_rfl) key_wide)
theorem key_deep : Try.prog.keyTypeAt (Try.prog.types.size + 1) 69 = true := by kernel_rfl
theorem key_cells : Try.prog.cellsOf 69 = 2 := by kernel_rfl
theorem key_formed {a b : Value} : (Value.agg #[a, b]).formed Try.prog 69 = true := by simp [Value.formed, Try.underlying69, key_cells]
theorem wf_u32 {x : Int} (h : 0 ≤ x ∧ x < 4294967296) : (Lit.int .u32 x).wf = true := by
  have h1 : IntKind.u32.min = 0 := rfl
  have h2 : IntKind.u32.max = 4294967295 := rfl
  simp only [Lit.wf, Bool.and_eq_true, decide_eq_true_eq]
  omega
theorem wf_u64 {x : Int} (h : 0 ≤ x ∧ x < 18446744073709551616) : (Lit.int .u64 x).wf = true := by
  have h1 : IntKind.u64.min = 0 := rfl
  have h2 : IntKind.u64.max = 18446744073709551615 := rfl
  simp only [Lit.wf, Bool.and_eq_true, decide_eq_true_eq]
  omega
def keyV (d t : Int) : Value := .agg #[.int .u32 d, .int .u64 t]
theorem key_some {d t : Int} (hd : 0 ≤ d ∧ d < 4294967296) (ht : 0 ≤ t ∧ t < 18446744073709551616) : ∃ kl, keyOf Try.prog 69 (keyV d t) = some kl := by
  have h := Go.Joins.shut_agg2 (H := Unit) (enc := fun _ => ()) (P := Try.prog) (w := default) (base := 0) (spare := fun _ => true) (held := true) (v0 := .int .u32 d) (v1 := .int .u64 t) Try.underlying69 (by kernel_rfl) key_cells (shut_int Try.underlying29 (wf_u32 hd)) (shut_int Try.underlying22 (wf_u64 ht))
  exact ⟨_, (keyOf_asKey key_deep key_wide key_formed h).1⟩
/-- A document as it was at some time. -/
structure Pt where
  doc : Nat
  rev : Nat
  turn : Nat
  bs : List Nat
deriving DecidableEq
/-- What is at hand of a document at a turn: the last one that was laid. -/
def handOf (h : List Pt) (doc turn : Nat) : Option (List Nat) := h.foldl (fun r e => if e.doc = doc ∧ e.turn = turn then some e.bs else r) none
theorem handOf_snoc (h : List Pt) (e : Pt) (doc turn : Nat) : handOf (h ++ [e]) doc turn = if e.doc = doc ∧ e.turn = turn then some e.bs else handOf h doc turn := by simp [handOf]
def readV (v : Value) : Option (DataW Value × List MemPlace) := some (.held v, [])
def nilV : Value := .slice none 0 0
/-- The map at b is what is at hand; its rows are of S. -/
structure HandAt (w : World) (S : Nat → Prop) (b : Nat) (h : List Pt) : Prop where
  map : ∃ n D, n ≤ h.length ∧ w.ownsMap Try.prog 69 readV b n D ∧ ∀ (doc turn : Nat) (kl : Lit), keyOf Try.prog 69 (keyV doc turn) = some kl →
    match handOf h doc turn with
    | some bs => ∃ A n c, Go.Maps.has D kl = true ∧ D.atKey kl (.held nilV) = .held (.slice A n c) ∧ Lies w 1 A n c (byt bs) ∧ ∀ a, A = some a → 0 < n → S a.block
    | none => Go.Maps.has D kl = false ∧ D.atKey kl (.held nilV) = .held nilV
theorem GrowS.liesZ {T : Nat → Prop} {w w' : World} {sz n c : Nat} {A : Option Addr} {xs : List Value} (k : GrowS T w w') (h : Lies w sz A n c xs) (hT : ∀ a, A = some a → 0 < n → ¬ T a.block) : Lies w' sz A n c xs := by
  rcases Nat.eq_zero_or_pos n with rfl | hn
  · have hx : xs = [] := List.eq_nil_of_length_eq_zero (by rw [h.len]; simp)
    subst hx
    exact ⟨by simp, h.nilc, h.le, h.big, fun a ha j u hu => by simp at hu⟩
  · exact k.lies h (fun a ha => hT a ha hn)
theorem GrowS.map {T : Nat → Prop} {w w' : World} {b n : Nat} {D : DataW Value} (k : GrowS T w w') (h : w.ownsMap Try.prog 69 readV b n D) (hT : ¬ T b) : w'.ownsMap Try.prog 69 readV b n D := by
  obtain ⟨es, clock, hb, r⟩ := h
  exact ⟨es, clock, k.kept hb hT, r⟩
theorem HandAt.keep {w w' : World} {S T : Nat → Prop} {b : Nat} {h : List Pt} (H : HandAt w S b h) (g : GrowS T w w') (hT : ∀ k, S k → ¬ T k) (hb : ¬ T b) : HandAt w' S b h := by
  obtain ⟨n, D, hn, hm, hk⟩ := H.map
  refine ⟨n, D, hn, g.map hm hb, fun doc turn kl hkl => ?_⟩
  have := hk doc turn kl hkl
  cases hh : handOf h doc turn with
  | none => rw [hh] at this; exact this
  | some bs =>
    rw [hh] at this
    obtain ⟨A, m, c, h1, h2, h3, h4⟩ := this
    exact ⟨A, m, c, h1, h2, g.liesZ h3 (fun a ha h0 => hT _ (h4 a ha h0)), h4⟩
theorem HandAt.mono {w : World} {S S' : Nat → Prop} {b : Nat} {h : List Pt} (H : HandAt w S b h) (hS : ∀ k, S k → S' k) : HandAt w S' b h := by
  obtain ⟨n, D, hn, hm, hk⟩ := H.map
  refine ⟨n, D, hn, hm, fun doc turn kl hkl => ?_⟩
  have := hk doc turn kl hkl
  cases hh : handOf h doc turn with
  | none => rw [hh] at this; exact this
  | some bs =>
    rw [hh] at this
    obtain ⟨A, m, c, h1, h2, h3, h4⟩ := this
    exact ⟨A, m, c, h1, h2, h3, fun a ha h0 => hS _ (h4 a ha h0)⟩
theorem HandAt.made (w : World) (S : Nat → Prop) : HandAt (w.alloc (.map #[] 0)) S w.heap.size [] :=
  ⟨0, _, Nat.le_refl _, World.ownsMap_made w _ _ _, fun _ _ _ _ => ⟨rfl, rfl⟩⟩
/-- One more document. -/
theorem handOver {w w' : World} {S T : Nat → Prop} {D : DataW Value} {h : List Pt} (hk : ∀ (doc turn : Nat) (kl : Lit), keyOf Try.prog 69 (keyV doc turn) = some kl →
      match handOf h doc turn with
      | some bs => ∃ A n c, Go.Maps.has D kl = true ∧ D.atKey kl (.held nilV) = .held (.slice A n c) ∧ Lies w 1 A n c (byt bs) ∧ ∀ a, A = some a → 0 < n → S a.block
      | none => Go.Maps.has D kl = false ∧ D.atKey kl (.held nilV) = .held nilV) (g : GrowS T w w') (hT : ∀ k, S k → ¬ T k) :
    ∀ (doc turn : Nat) (kl : Lit), keyOf Try.prog 69 (keyV doc turn) = some kl →
      match handOf h doc turn with
      | some bs => ∃ A n c, Go.Maps.has D kl = true ∧ D.atKey kl (.held nilV) = .held (.slice A n c) ∧ Lies w' 1 A n c (byt bs) ∧ ∀ a, A = some a → 0 < n → S a.block
      | none => Go.Maps.has D kl = false ∧ D.atKey kl (.held nilV) = .held nilV := fun doc turn kl hkl => by
  have := hk doc turn kl hkl
  cases hh : handOf h doc turn with
  | none => rw [hh] at this; exact this
  | some bs =>
    rw [hh] at this
    obtain ⟨A, m, c, h1, h2, h3, h4⟩ := this
    exact ⟨A, m, c, h1, h2, g.liesZ h3 (fun a ha h0 => hT _ (h4 a ha h0)), h4⟩
theorem HandAt.put {w' : World} {S : Nat → Prop} {b n m c : Nat} {D : DataW Value} {h : List Pt} {e : Pt} {A : Option Addr} {kl : Lit} (hn : n ≤ h.length)
    (hk : ∀ (doc turn : Nat) (kl : Lit), keyOf Try.prog 69 (keyV doc turn) = some kl →
      match handOf h doc turn with
      | some bs => ∃ A n c, Go.Maps.has D kl = true ∧ D.atKey kl (.held nilV) = .held (.slice A n c) ∧ Lies w' 1 A n c (byt bs) ∧ ∀ a, A = some a → 0 < n → S a.block
      | none => Go.Maps.has D kl = false ∧ D.atKey kl (.held nilV) = .held nilV)
    (hD : Go.Maps.IsMap D) (hkl : keyOf Try.prog 69 (keyV e.doc e.turn) = some kl) (hown : w'.ownsMap Try.prog 69 readV b (n + 1) (D.put kl (.held (.slice A m c)))) (hL : Lies w' 1 A m c (byt e.bs)) (hA : ∀ a, A = some a → 0 < m → S a.block) : HandAt w' S b (h ++ [e]) := by
  refine ⟨n + 1, _, by rw [List.length_append, List.length_singleton]; omega, hown, fun doc turn kl2 hkl2 => ?_⟩
  rw [handOf_snoc]
  by_cases hc : e.doc = doc ∧ e.turn = turn
  · obtain ⟨rfl, rfl⟩ := hc
    rw [hkl] at hkl2
    injection hkl2 with hkl2
    subst hkl2
    rw [if_pos ⟨rfl, rfl⟩]
    have hL2 := key_law.key hkl
    exact ⟨A, m, c, Go.Maps.has_put_same hD hL2 _, Go.Maps.atKey_put_same hD hL2 _ _, hL, hA⟩
  · rw [if_neg hc]
    have hne : kl2 ≠ kl := fun he => by
      subst he
      have := key_law.inj hkl hkl2
      unfold keyV at this
      injection this with this
      simp only [Array.mk.injEq, List.cons.injEq, Value.int.injEq, true_and, and_true] at this
      exact hc ⟨by omega, by omega⟩
    have := hk doc turn kl2 hkl2
    cases hh : handOf h doc turn with
    | none =>
      rw [hh] at this
      exact ⟨by rw [Go.Maps.has_put_other hne]; exact this.1, by rw [Go.Maps.atKey_put_other hne]; exact this.2⟩
    | some bs =>
      rw [hh] at this
      obtain ⟨A2, m2, c2, h1, h2, h3, h4⟩ := this
      exact ⟨A2, m2, c2, by rw [Go.Maps.has_put_other hne]; exact h1, by rw [Go.Maps.atKey_put_other hne]; exact h2, h3, h4⟩
end Go.Proofs.Ytlnokohmmhmoaaa

