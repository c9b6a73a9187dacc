/-
  lazy: what Plan needs: what is at hand, asked; a fetch that begins; news.
-/
import Derived.Test.YtlnokohmmhmoaaaLPush
namespace Go.Proofs.Ytlnokohmmhmoaaa
open Go.RowKit
set_option linter.unusedSimpArgs false

theorem zero_bytes (w : World) : (zeroValue 23).run Try.prog w = .ok (.slice none 0 0) w := by kernel_rfl
theorem hand_look {w : World} {S : Nat → Prop} {b doc turn : Nat} {h : List Pt} (H : HandAt w S b h) (hd : doc < 4294967296) (ht : turn < 18446744073709551616) :
    ∃ (A : Option Addr) (n c : Nat) (bb : Bool), (∀ W, Grow w W → (Instr.lookup 63 (.map (some b)) (.agg #[.int .u32 doc, .int .u64 turn]) true).run Try.prog W = .ok (.tuple #[.slice A n c, .bool bb]) W) ∧ BytesAt w S (.slice A n c) ((handOf h doc turn).getD []) ∧ bb = (handOf h doc turn).isSome := by
  obtain ⟨kl, hkl⟩ := key_some (d := (doc : Int)) (t := (turn : Int)) (by omega) (by omega)
  obtain ⟨nn, D, hn, hm, hk⟩ := H.map
  have hh := hk doc turn kl hkl
  have key : ∀ (v : Value), D.atKey kl (.held nilV) = .held v → ∀ W, Grow w W → (Instr.lookup 63 (.map (some b)) (.agg #[.int .u32 doc, .int .u64 turn]) true).run Try.prog W = .ok (.tuple #[v, .bool (Go.Maps.has D kl)]) W := by
    intro v hv W g
    obtain ⟨v2, ps, h1, h2⟩ := ((g.wide NoRow).map hm (fun k => k)).look_ok key_law Try.underlying63 (zero_bytes W) (zd := .held nilV) (zp := []) rfl hkl
    rw [hv] at h2
    unfold readV at h2
    injection h2 with h2
    injection h2 with h2 _
    injection h2 with h2
    subst h2
    exact h1
  cases ho : handOf h doc turn with
  | none =>
    rw [ho] at hh
    exact ⟨none, 0, 0, false, fun W g => by have := key nilV hh.2 W g; rw [hh.1] at this; exact this, BytesAt.nil _ _, rfl⟩
  | some bs =>
    rw [ho] at hh
    obtain ⟨A, n, c, h1, h2, h3, h4⟩ := hh
    exact ⟨A, n, c, true, fun W g => by have := key _ h2 W g; rw [h1] at this; exact this, ⟨A, n, c, rfl, h3, h4⟩, rfl⟩
/-- A plan comes: the rest is new, no document yet. -/
theorem FAt.begin {w w' : World} {T R : Nat → Prop} {p b base n : Nat} {f f' : F} {Rv V v : Value} {l : List (Dt × Value)} (h : FAt w T R p f b Rv V l) (g : GrowS (fun k => k = p) w w') (hv : w.ownsRow base 5 1 v n (byt f'.rest)) (hvT : ∀ g, v.ownBlock = some g → ¬ T g)
    (st : w'.heap[p]? = some (.cells (fcells f' b v (.slice none 0 0)) 66 (0, 0))) (hh : f'.hand = f.hand) (hd : f'.docs = []) : FAt w' T (fun k => R k ∨ v.ownBlock = some k) p f' b v (.slice none 0 0) [] := by
  have hp : ∀ k, R k → ¬ k = p := fun k hk e => by subst e; exact h.apart k h.pT hk
  have hv2 : w'.ownsRow base 5 1 v n (byt f'.rest) := g.own hv fun k hk e => row_apart hv h.st (by decide) k hk e
  refine ⟨st, by rw [hh]; exact (h.hand.keep g hp (hp _ h.bR)).mono fun k hk => .inl hk, .inl h.bR, BytesAt.own hv2 fun k hk => .inr hk, World.ownsRow_nil _ _ _ _, fun _ h => by (cases h), by rw [hd]; rfl, fun _ h => by (cases h), h.pT, fun k hk hr => hr.elim (h.apart k hk) (fun hr => hvT k hr hk), fun k hk => Nat.lt_of_lt_of_le (h.ltT k hk) g.size, fun k hk => hk.elim (fun hk => Nat.lt_of_lt_of_le (h.ltR k hk) g.size) (fun hk => (hv2.lt k hk).2)⟩
theorem news_any {T R : Nat → Prop} {p b : Nat} {f : F} {Rv V : Value} {l : List (Dt × Value)} {w : World} (h : FAt w T R p f b Rv V l) :
    Calls Try.prog 36 #[.pointer (some ⟨p, 0, none⟩)] w fun e w' => e = .returned (.tuple #[]) ∧ FAt w' T R p { f with fresh := true, vain := 0 } b Rv V l ∧ GrowS (fun k => k = p) w w' := by
  have H := Lib.hid h
  have st0 := h.st
  have st1 := heap_setCell_same w p 10 _ _ (.bool true) st0
  have st2 := heap_setCell_same _ p 9 _ _ (.int .i64 0) st1
  have a0 := cell_of_row _ p 10 _ _ (0, 0) st0
  have b0 := frozen_of_row _ p 10 _ _ st0
  have a1 := cell_of_row _ p 9 _ _ (0, 0) st1
  have b1 := frozen_of_row _ p 9 _ _ st1
  have ST2 := Lib.hid st2
  clear st0 st1 st2 h
  go_enter Try.func36, Try.ntmps36
  go_wp2
  go_end0
  have gs : GrowS (fun k => k = p) w ((w.setCell ⟨p, 10, none⟩ (.bool true)).setCell ⟨p, 9, none⟩ (.int .i64 0)) := (GrowS.setCell (T := fun k => k = p) w (p := ⟨p, 10, none⟩) rfl _).trans (GrowS.setCell (T := fun k => k = p) _ (p := ⟨p, 9, none⟩) rfl _)
  exact ⟨rfl, H.out.turn gs (by have := ST2.out; simpa [fcells] using this) rfl (.inl ⟨rfl, rfl⟩) (.inl ⟨rfl, rfl, rfl⟩), gs⟩
/-- Plan refuses by its state. -/
theorem plan_state {T R : Nat → Prop} {p : Nat} {f : F} {k frm op doc off tot : Int} {A B : Option Addr} {n c m e0 : Nat} {w : World} (h : FIs w T R p f) (hs : k ≠ 15 ∨ 0 ≤ f.frm) :
    Calls Try.prog 17 #[.pointer (some ⟨p, 0, none⟩), .agg #[.int .i64 k, .int .u64 0, .int .i64 frm, .int .u32 0, .int .u64 0, .int .u64 0, .int .u64 op, .int .u64 0, .int .u64 0, .int .u64 0, .int .u64 0, .int .u32 0, .int .u64 0, .slice none 0 0, .int .u32 doc, .int .i64 off, .int .i64 tot, .bool false, .slice A n c, .slice B m e0]] w fun e w' => e = .returned (.int .i64 39) ∧ Grow w w' := by
  obtain ⟨b, Rv, V, l, h⟩ := h
  have c11 : (w.alloc (.cells #[.int .i64 k, .int .u64 0, .int .i64 frm, .int .u32 0, .int .u64 0, .int .u64 0, .int .u64 op, .int .u64 0, .int .u64 0, .int .u64 0, .int .u64 0, .int .u32 0, .int .u64 0, .slice none 0 0, .int .u32 doc, .int .i64 off, .int .i64 tot, .bool false, .slice A n c, .slice B m e0] 42)).cell? ⟨p, 11, none⟩ = some (.bool true) := (h.grow (Grow.alloc w _)).c 11
  have c3 : (w.alloc (.cells #[.int .i64 k, .int .u64 0, .int .i64 frm, .int .u32 0, .int .u64 0, .int .u64 0, .int .u64 op, .int .u64 0, .int .u64 0, .int .u64 0, .int .u64 0, .int .u32 0, .int .u64 0, .slice none 0 0, .int .u32 doc, .int .i64 off, .int .i64 tot, .bool false, .slice A n c, .slice B m e0] 42)).cell? ⟨p, 3, none⟩ = some (.int .i64 f.frm) := (h.grow (Grow.alloc w _)).c 3
  clear h
  by_cases hk : k = 15
  · have e1 : (k != 15) = false := by simp [hk]
    have e2 : decide (f.frm ≥ 0) = true := by rcases hs with h | h; exact absurd hk h; simp; omega
    clear hk hs
    go_enter Try.func17, Try.ntmps17
    go_wp2_with fail
    refine (fnone_made c11).mono ?_
    rintro e w1 ⟨rfl, rfl⟩
    go_wp2
    go_ret
    exact ⟨rfl, Grow.alloc _ _⟩
  · have e1 : (k != 15) = true := by simp [hk]
    clear hk hs
    go_enter Try.func17, Try.ntmps17
    go_wp2_with fail
    refine (fnone_made c11).mono ?_
    rintro e w1 ⟨rfl, rfl⟩
    go_wp2
    go_ret
    exact ⟨rfl, Grow.alloc _ _⟩
end Go.Proofs.Ytlnokohmmhmoaaa

