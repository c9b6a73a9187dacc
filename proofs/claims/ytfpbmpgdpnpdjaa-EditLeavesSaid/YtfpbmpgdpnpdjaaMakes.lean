/-
  edit: what is typed, erased, replaced: as functions; the contracts of both packages' Type, Erase.
-/
import Derived.Test.YtfpbmpgdpnpdjaaChar
import Derived.Test.YtfpbmpgdpnpdjaaWake
import Derived.Test.YtfpbmpgdpnpdjaaBackP
namespace Go.Proofs.Ytfpbmpgdpnpdjaa
open Go.RowKit
set_option linter.unusedSimpArgs false

def errT (pos : Int) (cs : List Int) : Int := if pos < 0 then 1 else if 256 < cs.length then 3 else if cs.all mayI then 0 else 21
def resT (pos cl rq : Int) (cs : List Int) : List U := if errT pos cs = 0 then unitsOf 1 pos cl rq cs else []
def errE (pos n : Int) : Int := if pos < 0 ∨ n < 0 then 1 else if 256 < n then 3 else 0
def resE (pos n cl rq : Int) : List U := if errE pos n = 0 then unitsOf 2 pos cl rq (List.replicate n.toNat 0) else []
def errR (pos n : Int) (cs : List Int) : Int := if errE pos n ≠ 0 then errE pos n else if errT pos cs ≠ 0 then errT pos cs else if 256 < n.toNat + cs.length then 3 else 0
def resR (pos n cl rq : Int) (cs : List Int) : List U := if errR pos n cs = 0 then resE pos n cl rq ++ resT pos cl rq cs else []
/-- A new row of units and an error. -/
def Gives (us : List U) (E : Int) (w : World) (e : Ending) (w' : World) : Prop :=
  ∃ A m c, e = .returned (.tuple #[.slice A m c, .int .i64 E]) ∧ w'.ownsRow w.heap.size 30 5 (.slice A m c) m (uns us) ∧ Grow w w'
theorem gives_nil {E E' : Int} {us : List U} {w w' : World} (g : Grow w w') (hE : E = E') (hu : us = []) : Gives us E' w (.returned (.tuple #[.slice none 0 0, .int .i64 E])) w' := by
  subst hE hu
  exact ⟨none, 0, 0, rfl, own_nilU _ _, g⟩
theorem gives_one {E E' : Int} {us vs : List U} {A : Option Addr} {m c : Nat} {w w' : World} (hE : E = E') (hu : vs = us) (ho : w'.ownsRow w.heap.size 30 5 (.slice A m c) m (uns vs)) (g : Grow w w') : Gives us E' w (.returned (.tuple #[.slice A m c, .int .i64 E])) w' := by
  subst hE hu
  exact ⟨A, m, c, rfl, ho, g⟩
theorem all_iff (cs : List Int) : cs.all mayI = true ↔ ∀ x ∈ cs, mayI x = true := List.all_eq_true

theorem ptype_any {pos cl rq : Int} {A : Option Addr} {n cap : Nat} {cs : List Int} {w : World} (hL : Lies w 1 A n cap (chs cs)) :
    Calls Try.prog 19 #[.int .i64 pos, .slice A n cap, .agg #[.int .u32 cl, .int .u64 rq]] w (Gives (resT pos cl rq cs) (errT pos cs) w) := by
  refine (type_any hL).mono fun e w' ⟨A', n', c', E, he, g, h⟩ => ?_
  subst he
  rcases h with ⟨h1, rfl, rfl, rfl, rfl⟩ | ⟨h1, h2, rfl, rfl, rfl, rfl⟩ | ⟨h1, h2, h3, rfl, rfl, rfl, rfl⟩ | ⟨h1, h2, h3, rfl, rfl, h4⟩
  · have e : errT pos cs = 1 := by simp [errT, h1]
    exact gives_nil g e.symm (by simp [resT, e])
  · have e : errT pos cs = 3 := by simp [errT, h2, show ¬ pos < 0 by omega]
    exact gives_nil g e.symm (by simp [resT, e])
  · have e : errT pos cs = 21 := by
      have : ¬ cs.all mayI = true := fun h => h3 ((all_iff cs).1 h)
      simp only [errT, if_neg (show ¬ pos < 0 by omega), if_neg (show ¬ 256 < cs.length by omega), if_neg this]
    exact gives_nil g e.symm (by simp [resT, e])
  · have e : errT pos cs = 0 := by
      have : cs.all mayI = true := (all_iff cs).2 h3
      simp only [errT, if_neg (show ¬ pos < 0 by omega), if_neg (show ¬ 256 < cs.length by omega), if_pos this]
    exact gives_one e.symm (by simp [resT, e]) h4 g
theorem perase_any {pos n cl rq : Int} {w : World} :
    Calls Try.prog 21 #[.int .i64 pos, .int .i64 n, .agg #[.int .u32 cl, .int .u64 rq]] w (Gives (resE pos n cl rq) (errE pos n) w) := by
  refine erase_any.mono fun e w' ⟨A', n', c', E, he, g, h⟩ => ?_
  subst he
  rcases h with ⟨h1, rfl, rfl, rfl, rfl⟩ | ⟨h1, h2, rfl, rfl, rfl, rfl⟩ | ⟨h1, h2, h3, rfl, h4, h5⟩
  · have e : errE pos n = 1 := by simp only [errE, if_pos h1]
    exact gives_nil g e.symm (by simp [resE, e])
  · have e : errE pos n = 3 := by simp only [errE, if_neg (show ¬ (pos < 0 ∨ n < 0) by omega), if_pos h2]
    exact gives_nil g e.symm (by simp [resE, e])
  · have e : errE pos n = 0 := by simp only [errE, if_neg (show ¬ (pos < 0 ∨ n < 0) by omega), if_neg (show ¬ 256 < n by omega)]
    obtain rfl : n' = n.toNat := by omega
    exact gives_one e.symm (by simp [resE, e]) h5 g

theorem mkU_ins {pos cl rq c : Int} {j : Nat} (hj : j ≤ 1000) : mkU 1 pos cl rq j c = ⟨1, wrap64 (pos + (j : Int)), c, cl, rq⟩ := by
  unfold mkU
  rw [if_neg (by decide), show stepI 1 = 1 from rfl, Int.mul_one, wrap_in (x := (j : Int)) (by omega) (by omega)]
theorem mkU_del {pos cl rq c : Int} {j : Nat} (hp : -9223372036854775808 ≤ pos ∧ pos ≤ 9223372036854775807) : mkU 2 pos cl rq j c = ⟨2, pos, c, cl, rq⟩ := by
  unfold mkU
  rw [if_neg (by decide), show stepI 2 = 0 from rfl, Int.mul_zero, wrap_zero, Int.add_zero, wrap_in hp.1 hp.2]
theorem unitsOf_rep (k p cl rq c : Int) (j : Nat) : unitsOf k p cl rq (List.replicate (j + 1) c) = unitsOf k p cl rq (List.replicate j c) ++ [mkU k p cl rq j c] := by
  rw [List.replicate_succ', unitsOf_app, List.length_replicate]

set_option maxRecDepth 100000 in
set_option maxHeartbeats 2000000 in
theorem rtype_any {pos cl rq : Int} {A : Option Addr} {n cap : Nat} {cs : List Int} {w : World} (hL : Lies w 1 A n cap (chs cs)) :
    Calls Try.prog 20 #[.int .i64 pos, .slice A n cap, .agg #[.int .u32 cl, .int .u64 rq]] w (Gives (resT pos cl rq cs) (errT pos cs) w) := by
  have hle := hL.le
  have hbig := hL.big
  have hln := hL.chs_len
  have HL := Lib.hid hL; have HLN := Lib.hid hln
  clear hL hln
  by_cases h0 : pos < 0
  · have e : errT pos cs = 1 := by simp [errT, h0]
    have HR := Lib.hid fun w' g => gives_nil (w := w) (w' := w') g e.symm (us := resT pos cl rq cs) (by simp [resT, e])
    have d0 : decide (pos < 0) = true := by simp; omega
    clear e
    go_enter Try.func20, Try.ntmps20
    go_wp2
    go_ret2
    exact HR.out _ (Grow.alloc _ _)
  have d0 : decide (pos < 0) = false := by simp; omega
  have h0' : 0 ≤ pos := by omega
  by_cases h1 : 256 < n
  · have e : errT pos cs = 3 := by have := HLN.out; simp only [errT, if_neg h0, if_pos (show 256 < cs.length by omega)]
    have HR := Lib.hid fun w' g => gives_nil (w := w) (w' := w') g e.symm (us := resT pos cl rq cs) (by simp [resT, e])
    have d1 : decide (256 < n) = true := by simp; omega
    have d2 : decide ((256 : Int) < (n : Int)) = true := by simp; omega
    clear e
    go_enter Try.func20, Try.ntmps20
    go_wp2
    go_ret2
    exact HR.out _ (Grow.alloc _ _)
  have d1 : decide (256 < n) = false := by simp; omega
  have d2 : decide ((256 : Int) < (n : Int)) = false := by simp; omega
  have hbad : ∀ x ∈ cs, mayI x = false → errT pos cs = 21 ∧ resT pos cl rq cs = [] := by
    intro x hx hb
    have : ¬ cs.all mayI = true := fun h => by have := (all_iff cs).1 h x hx; rw [hb] at this; cases this
    have e : errT pos cs = 21 := by simp only [errT, if_neg h0, if_neg (show ¬ 256 < cs.length by have := HLN.out; omega), if_neg this]
    exact ⟨e, by simp [resT, e]⟩
  have hgood : (∀ x ∈ cs, mayI x = true) → errT pos cs = 0 ∧ resT pos cl rq cs = unitsOf 1 pos cl rq cs := by
    intro hb
    have e : errT pos cs = 0 := by simp only [errT, if_neg h0, if_neg (show ¬ 256 < cs.length by have := HLN.out; omega), if_pos ((all_iff cs).2 hb)]
    exact ⟨e, by simp [resT, e]⟩
  have HB := Lib.hid hbad; have HG := Lib.hid hgood
  clear hbad hgood h0
  go_enter Try.func20, Try.ntmps20
  go_wp2
  go_loopw [8, 9] (fun v i wr => ∃ (j : Nat) (A1 : Option Addr) (c1 : Nat), j ≤ n ∧ i = .int .i64 j ∧ v = .slice A1 j c1 ∧ Hid (∀ x ∈ cs.take j, mayI x = true) ∧ wr.ownsRow (w.heap.size + 1) 30 5 (.slice A1 j c1) j (uns (unitsOf 1 pos cl rq (cs.take j))) ∧ Grow (w.alloc (.cells #[.int .u32 cl, .int .u64 rq] 28)) wr) (fun _ i _ => n - (intOf i).toNat)
  case atStart => exact ⟨0, none, 0, Nat.zero_le _, rfl, rfl, by simp [Hid], own_nilU _ _, Grow.refl _⟩
  case round =>
    obtain ⟨j, A1, c1, hj, rfl, rfl, hok, own1, hg⟩ := hrel
    have G0 := Lib.hid ((Grow.alloc w (.cells #[.int .u32 cl, .int .u64 rq] 28)).trans hg)
    by_cases hlt : j < n
    · obtain ⟨c, hc⟩ : ∃ c, cs[j]? = some c := ⟨_, List.getElem?_eq_getElem (by have := HLN.out; omega)⟩
      obtain ⟨b, off, rfl, hbs, hcell⟩ := HL.out.pos (by omega) (by decide)
      have hcc := fun W (g : Grow wr W) => grow_cell (hcell j (.int .i32 c) (by simp [chs, hc])) (G0.out.trans g)
      have b0 : ∀ W : World, Grow wr W → W.cell? ⟨w.heap.size, 0, none⟩ = some (.int .u32 cl) := fun W h => grow_cell (cell_of_row _ w.heap.size 0 _ _ (0, 0) (heap_alloc_new w _)) (hg.trans h)
      have b1 : ∀ W : World, Grow wr W → W.cell? ⟨w.heap.size, 1, none⟩ = some (.int .u64 rq) := fun W h => grow_cell (cell_of_row _ w.heap.size 1 _ _ (0, 0) (heap_alloc_new w _)) (hg.trans h)
      have hc0 := hcc wr (Grow.refl _)
      obtain ⟨r, hr⟩ : ∃ r, mayI c = r := ⟨_, rfl⟩
      have HC := Lib.hid hc; have HR := Lib.hid hr; have G1 := Lib.hid hg; have O1 := Lib.hid own1
      have HCC := Lib.hid hcc; have B0 := Lib.hid b0; have B1 := Lib.hid b1
      clear hc hr hcell hg own1 hcc b0 b1
      go_wp2_with fail
      refine (rmay_at r HR.out).mono ?_
      rintro e w1 ⟨rfl, rfl⟩
      cases r with
      | true =>
        have hok2 := Lib.hid (take_ok hok.out HC.out HR.out)
        have i0 : (0 : Int) ≤ (j : Int) := by omega
        have i1 : (j : Int) < (n : Int) := by omega
        go_wp2_with fail
        have hcc := HCC.out; have b0 := B0.out; have b1 := B1.out
        obtain ⟨q, hq⟩ : ∃ q, IntKind.i64.wrap (pos + (j : Int)) = q := ⟨_, rfl⟩
        have HQ := Lib.hid hq
        refine Chain.start Nat (by kernel_rfl) (by kernel_rfl) (fun hg => ?_)
        repeat (first | (refine Chain.skip hg (fun t => by rfl) ?_; simp only [Act.put, List.setIfInBounds_toArray, List.set_cons_zero, List.set_cons_succ]) | (refine Chain.pure hg (X := ?_) (fun t W hw hN => ⟨by rfl, ?_⟩) ?_; rotate_left; (focus (go_simp <;> with_reducible rfl)); simp only [Act.put, List.setIfInBounds_toArray, List.set_cons_zero, List.set_cons_succ]))
        refine Chain.grow hg (fun g => .slice (some ⟨g, 0, none⟩) 1 1) (fun g V => Lies V 5 (some ⟨g, 0, none⟩) 1 1 (uns [⟨1, q, c, cl, rq⟩])) (fun _ _ _ h k => h.below k (Nat.le_refl _)) (fun _ => by rfl) (fun t W hw hN K hK => ?_) ?_
        · go_simp; exact hK.out _ _ (Grow.alloc _ _) (lies_unit ⟨1, q, c, cl, rq⟩ rfl)
        simp only [Act.put, List.setIfInBounds_toArray, List.set_cons_zero, List.set_cons_succ]
        refine Chain.tail (tail_of (by kernel_rfl)) (fun t W hw hN => ?_)
        have hbx := hN.get 10 rfl (by kernel_rfl)
        generalize t 10 = g7 at *
        have O2 := Lib.hid (own_grow O1.out hw); have LX := Lib.hid hbx; have G2 := Lib.hid (G0.out.trans hw)
        have GA := Lib.hid (G1.out.trans hw)
        clear hN hg hbx hw hcc b0 b1 hc0 hq
        go_wp2_with (at_builtin; refine wpList_appU rfl (.tmp 27) (.tmp 37) rfl (w.heap.size + 1) _ j _ rfl O2.out (some ⟨g7, 0, none⟩) 1 1 [⟨1, q, c, cl, rq⟩] rfl LX.out (by omega) (by have := GA.out.size; simpa using this) ?_; intro A3 c3 w3 own3 L3 bel3)
        have GB := Lib.hid (bel3 _ _ GA.out (by simp))
        have eu : (⟨1, q, c, cl, rq⟩ : U) = mkU 1 pos cl rq j c := by rw [mkU_ins (by omega), ← HQ.out, IntWalk.i64_left]
        rw [eu, ← unitsOf_snoc HC.out] at own3
        clear bel3 L3 eu
        go_wp2
        go_roundw
        case rel => exact ⟨j + 1, A3, c3, by omega, by go_num, rfl, hok2, own3, GB.out⟩
        case measure => simp [intOf]; omega
      | false =>
        obtain ⟨e1, e2⟩ := HB.out c (List.mem_of_getElem? HC.out) HR.out
        have HF := Lib.hid (gives_nil (w := w) G0.out e1.symm e2)
        clear e1 e2 hc0
        go_wp2
        go_ret2
        exact HF.out
    · obtain rfl : j = n := by omega
      have e : cs.take j = cs := List.take_of_length_le (by have := HLN.out; omega)
      have hok2 := hok.out
      rw [e] at own1 hok2
      obtain ⟨e1, e2⟩ := HG.out hok2
      have HF := Lib.hid (gives_one (w := w) e1.symm e2.symm (own1.mono (by omega)) G0.out)
      clear e1 e2 e own1 hok2 hg
      go_wp2
      go_ret2
      exact HF.out
end Go.Proofs.Ytfpbmpgdpnpdjaa

