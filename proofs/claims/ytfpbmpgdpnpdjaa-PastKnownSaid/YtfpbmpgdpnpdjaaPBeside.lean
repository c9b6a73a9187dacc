/-
  PastGrows: what lies beside its past.
-/
import Derived.Test.YtfpbmpgdpnpdjaaPUndoneWalk
namespace Go.Proofs.Ytfpbmpgdpnpdjaa
open Go.RowKit
set_option linter.unusedSimpArgs false

theorem drop_any {p q x went : Nat} {os : List O} {lens : List Int} {S : Nat → Prop} {w : World} (hP : PastIs w S p q os lens) (hk : os.length ≤ 256) (hq : q ≤ 2305843009213693952) (hw : os.length - x = went) (hx : x ≤ 1000) :
    Calls Try.prog 35 #[.pointer (some ⟨p, 0, none⟩), .int .i64 (x : Int)] w fun e w' => e = .returned (.int .i64 (went : Int)) ∧ ∃ S' : Nat → Prop, PastIs w' S' p (q + went) (os.drop went) (lens.drop went) ∧ (∀ k, S' k → S k ∨ w.heap.size ≤ k) ∧ GrowS S w w' := by
  by_cases h : os.length ≤ x
  · obtain rfl : went = 0 := by omega
    refine (drop_none hP hk (.inl (by omega)) (by omega)).mono ?_
    rintro e w' ⟨rfl, rfl⟩
    exact ⟨rfl, S, by simpa using hP, fun k hk => .inl hk, GrowS.refl _ _⟩
  · refine (drop_some (d := went) hP hk hq (by rw [if_neg (by omega)]; omega) (by omega)).mono ?_
    rintro e w' ⟨rfl, h1, h2⟩
    exact ⟨rfl, _, h1, fun k hk => hk.imp id (fun h => h.1), h2⟩
theorem pnow_z {p q : Nat} {z : Int} {os : List O} {lens : List Int} {S : Nat → Prop} {w : World} (hP : PastIs w S p q os lens) (hq : q ≤ 2305843009213693952) (hk : os.length ≤ 256) (hz : (q : Int) + (os.length : Int) = z) :
    Calls Try.prog 31 #[.pointer (some ⟨p, 0, none⟩)] w fun e w' => e = .returned (.int .u64 z) ∧ w = w' := pnow_at hP hq hk hz
theorem pfrom_z {p q : Nat} {z : Int} {os : List O} {lens : List Int} {S : Nat → Prop} {w : World} (hP : PastIs w S p q os lens) (hz : (q : Int) = z) :
    Calls Try.prog 36 #[.pointer (some ⟨p, 0, none⟩)] w fun e w' => e = .returned (.int .u64 z) ∧ w = w' := by
  subst hz; exact pfrom_at hP
theorem plen_z {p q : Nat} {z : Int} {os : List O} {lens : List Int} {S : Nat → Prop} {w : World} (hP : PastIs w S p q os lens) (hz : (os.length : Int) = z) :
    Calls Try.prog 37 #[.pointer (some ⟨p, 0, none⟩)] w fun e w' => e = .returned (.int .i64 z) ∧ w = w' := by
  subst hz; exact plen_at hP
/-- What the law holds beside its past: all operations, all lengths. -/
structure Beside (w : World) (T S : Nat → Prop) (Va VB : Value) (la : List (O × Value)) (lens : List Int) : Prop where
  all : OpsOwn w T Va la
  len : w.ownsRow 0 3 1 VB lens.length (ins lens)
  lenIn : ∀ g, VB.ownBlock = some g → T g
  apart : ∀ k, T k → ¬ S k
  lt : ∀ k, T k → k < w.heap.size
theorem Beside.keep {w w' : World} {T S R : Nat → Prop} {Va VB : Value} {la : List (O × Value)} {lens : List Int} (h : Beside w T S Va VB la lens) (g : GrowS R w w') (hR : ∀ k, T k → ¬ R k) : Beside w' T S Va VB la lens :=
  ⟨h.all.keep g hR, g.own h.len (fun k hk => hR k (h.lenIn k hk)), h.lenIn, h.apart, fun k hk => Nat.lt_of_lt_of_le (h.lt k hk) g.size⟩
theorem Beside.grow {w w' : World} {T S : Nat → Prop} {Va VB : Value} {la : List (O × Value)} {lens : List Int} (h : Beside w T S Va VB la lens) (g : Grow w w') : Beside w' T S Va VB la lens := h.keep (g.wide NoRow) (fun _ _ k => k)
theorem Beside.pushed {w w' : World} {T S : Nat → Prop} {Va VB : Value} {la : List (O × Value)} {lens : List Int} (h : Beside w T S Va VB la lens) (g : GrowS S w w') : Beside w' T (plus S w w') Va VB la lens := by
  have := h.keep g h.apart
  exact ⟨this.all, this.len, this.lenIn, fun k hk hs => hs.elim (h.apart k hk) (fun h2 => by have := h.lt k hk; have := h2.1; omega), this.lt⟩
theorem Beside.more {w w0 : World} {T S : Nat → Prop} {Va VB : Value} {la : List (O × Value)} {lens : List Int} (h : Beside w T S Va VB la lens) (hS : ∀ k, S k → k < w0.heap.size) : Beside w (plus T w0 w) S Va VB la lens :=
  ⟨h.all.mono fun k hk => .inl hk, h.len, fun g hg => .inl (h.lenIn g hg), fun k hk hs => hk.elim (fun h2 => h.apart k h2 hs) (fun h2 => by have := hS k hs; have := h2.1; omega), fun k hk => hk.elim (h.lt k) (fun h2 => h2.2)⟩
/-- An operation onto all. -/
theorem Beside.addO {w w' : World} {T S : Nat → Prop} {Va Va' VB v : Value} {la : List (O × Value)} {lens : List Int} {o : O} (h : Beside w T S Va VB la lens) (hS : ∀ k, S k → k < w.heap.size) (hv : w.ownsRow 0 30 5 v o.us.length (uns o.us)) (hvT : ∀ g, v.ownBlock = some g → plus T w w' g) (hap : BApart Va v)
    (hg : w.grownBy w' Va.ownBlock) (hf : Fresh w Va Va') (ho : w'.ownsRow 0 67 4 Va' (la.length + 1) (ocs (la ++ [(o, v)]))) : Beside w' (plus T w w') S Va' VB (la ++ [(o, v)]) lens := by
  have hnew : ∀ k, Va'.ownBlock = some k → plus T w w' k := fun k hk => hf.elim (fun e => .inl (h.all.rowIn k (e ▸ hk))) (fun e => .inr ⟨e k hk, (ho.lt k hk).2⟩)
  have key : ∀ {x : Value} {e sz n xs}, e ≠ 67 → w.ownsRow 0 e sz x n xs → w'.ownsRow 0 e sz x n xs := fun {x e sz n xs} hne hx => hx.kept hg (by
    cases hxb : x.ownBlock with
    | none => exact .inl rfl
    | some g => exact .inr fun e2 => types_apart hx h.all.row hne g hxb e2.symm)
  refine ⟨⟨by simpa using ho, hnew, fun x hx => ?_, fun x hx => ?_, fun x hx => ?_⟩, key (by decide) h.len, fun g hg => .inl (h.lenIn g hg), fun k hk hs => ?_, fun k hk => ?_⟩
  · rcases List.mem_append.1 hx with hx | hx
    · exact key (by decide) (h.all.each x hx)
    · simp at hx; subst hx; exact key (by decide) hv
  · rcases List.mem_append.1 hx with hx | hx
    · exact fun g hg => .inl (h.all.eachIn x hx g hg)
    · simp at hx; subst hx; exact hvT
  · rcases List.mem_append.1 hx with hx | hx
    · exact (h.all.apart x hx).fresh hf fun g hg => ((h.all.each x hx).lt g hg).2
    · simp at hx; subst hx; exact hap.fresh hf fun g hg => (hv.lt g hg).2
  · rcases hk with hk | hk
    · exact h.apart k hk hs
    · have := hS k hs; have := hk.1; omega
  · rcases hk with hk | hk
    · exact Nat.lt_of_lt_of_le (h.lt k hk) hg.size
    · exact hk.2
/-- A length onto all. -/
theorem Beside.addI {w w' : World} {T S : Nat → Prop} {Va VB VB' : Value} {la : List (O × Value)} {lens : List Int} {m : Int} (h : Beside w T S Va VB la lens) (hS : ∀ k, S k → k < w.heap.size)
    (hg : w.grownBy w' VB.ownBlock) (hf : Fresh w VB VB') (ho : w'.ownsRow 0 3 1 VB' (lens.length + 1) (ins (lens ++ [m]))) : Beside w' (plus T w w') S Va VB' la (lens ++ [m]) := by
  have key : ∀ {x : Value} {e sz n xs}, e ≠ 3 → w.ownsRow 0 e sz x n xs → w'.ownsRow 0 e sz x n xs := fun {x e sz n xs} hne hx => hx.kept hg (by
    cases hxb : x.ownBlock with
    | none => exact .inl rfl
    | some g => exact .inr fun e2 => types_apart hx h.len hne g hxb e2.symm)
  refine ⟨⟨key (by decide) h.all.row, fun g hg => .inl (h.all.rowIn g hg), fun x hx => key (by decide) (h.all.each x hx), fun x hx g hg => .inl (h.all.eachIn x hx g hg), h.all.apart⟩, by simpa using ho, fun g hg => ?_, fun k hk hs => ?_, fun k hk => ?_⟩
  · exact hf.elim (fun e => .inl (h.lenIn g (e ▸ hg))) (fun e => .inr ⟨e g hg, (ho.lt g hg).2⟩)
  · rcases hk with hk | hk
    · exact h.apart k hk hs
    · have := hS k hs; have := hk.1; omega
  · rcases hk with hk | hk
    · exact Nat.lt_of_lt_of_le (h.lt k hk) hg.size
    · exact hk.2
end Go.Proofs.Ytfpbmpgdpnpdjaa

