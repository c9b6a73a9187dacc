/-
  past: the contracts of Copy, New.
-/
import Derived.Test.YtfpbmpgdpnpdjaaPDrop
namespace Go.Proofs.Ytfpbmpgdpnpdjaa
open Go.RowKit
set_option linter.unusedSimpArgs false

/-- What is new. -/
def anew (w w' : World) : Nat → Prop := fun k => w.heap.size ≤ k ∧ k < w'.heap.size
/-- What the operations of Copy leave. -/
structure CopyS where
  A : Option Addr
  c : Nat
  l : List (O × Value)
  B : Option Addr
  d : Nat
  b : Nat
instance : Inhabited CopyS := ⟨⟨none, 0, [], none, 0, 0⟩⟩
set_option maxRecDepth 100000 in
set_option maxHeartbeats 1000000 in
theorem copy_any {p q : Nat} {os : List O} {lens : List Int} {S : Nat → Prop} {w : World} (hP : PastIs w S p q os lens) (hk : os.length ≤ 256) (hu : ∀ o ∈ os, o.us.length * 40 ≤ 140737488355328) :
    Calls Try.prog 34 #[.pointer (some ⟨p, 0, none⟩)] w fun e w' => ∃ p2 : Nat, e = .returned (.pointer (some ⟨p2, 0, none⟩)) ∧ PastIs w' (anew w w') p2 q os lens ∧ Grow w w' := by
  obtain ⟨V, l, B, hos, hP⟩ := hP
  obtain ⟨A, c, rfl⟩ := hP.formV
  obtain ⟨gB, cB, rfl⟩ := hP.formB
  have hk2 : l.length ≤ 256 := by rw [← hos, List.length_map] at hk; exact hk
  obtain ⟨k, hlk⟩ : ∃ k, l.length = k := ⟨_, rfl⟩
  have hn := hP.n
  have hl2 := Lies.of_own (by have := hP.len; rw [hn] at this; exact this)
  rw [hlk] at hP hk2 hn hl2
  have HP := Lib.hid hP; have HLK := Lib.hid hlk; have HN := Lib.hid hn; have HOS := Lib.hid hos; have HU := Lib.hid hu; have HL2 := Lib.hid hl2
  clear hP hlk hn hos hu hl2 hk
  go_enter Try.func34, Try.ntmps34
  go_wp2_with fail
  refine (none_made HP.out.c3).mono ?_
  rintro e w1 ⟨rfl, rfl⟩
  have c0 : ∀ W, Grow w W → W.cell? ⟨p, 0, none⟩ = some (.int .u64 q) := fun W g => (HP.out.grow g).c0
  have c1 : ∀ W, Grow w W → W.cell? ⟨p, 1, none⟩ = some (.slice A k c) := fun W g => (HP.out.grow g).c1
  have c2 : ∀ W, Grow w W → W.cell? ⟨p, 2, none⟩ = some (.slice (some ⟨gB, 0, none⟩) (k + 1) cB) := fun W g => (HP.out.grow g).c2
  go_wp2_with fail
  refine Chain.start CopyS (by kernel_rfl) (by kernel_rfl) (fun hg => ?_)
  repeat (first | (refine Chain.skip hg (fun t => by rfl) ?_; simp only [Act.put, List.setIfInBounds_toArray, List.set_cons_zero, List.set_cons_succ]) | (refine Chain.pure hg (X := ?_) (fun t W hw hN => ⟨by rfl, ?_⟩) ?_; rotate_left; (focus (go_simp <;> with_reducible rfl)); simp only [Act.put, List.setIfInBounds_toArray, List.set_cons_zero, List.set_cons_succ]))
  refine Chain.grow hg (fun s => .slice s.A k s.c) (fun s W => s.l.map (·.1) = os ∧ OpsOwn W (fun k => w.heap.size ≤ k) (.slice s.A k s.c) s.l) (fun _ _ _ h g => ⟨h.1, h.2.grow g⟩) (fun _ => by rfl) (fun t W hw hN K hK => ?_) ?_
  · go_simp
    refine (powns_any HOS.out (HP.out.own.lie.grow hw) (by omega) HU.out).mono ?_
    rintro e w9 ⟨A', c', l', rfl, h1, h2, g9⟩
    exact hK.out ⟨A', c', l', none, 0, 0⟩ _ g9 ⟨h1, h2.mono (fun i hi => Nat.le_trans hw.size hi)⟩
  simp only [Act.put, List.setIfInBounds_toArray, List.set_cons_zero, List.set_cons_succ]
  repeat (first | (refine Chain.skip hg (fun t => by rfl) ?_; simp only [Act.put, List.setIfInBounds_toArray, List.set_cons_zero, List.set_cons_succ]) | (refine Chain.pure hg (X := ?_) (fun t W hw hN => ⟨by rfl, ?_⟩) ?_; rotate_left; (focus (go_simp <;> with_reducible rfl)); simp only [Act.put, List.setIfInBounds_toArray, List.set_cons_zero, List.set_cons_succ]))
  refine Chain.grow hg (fun s => .slice s.A (k + 1) s.c) (fun s W => W.ownsRow w.heap.size 3 1 (.slice s.A (k + 1) s.c) (k + 1) (ins lens)) (fun _ _ _ h g => own_grow h g) (fun _ => by rfl) (fun t W hw hN K hK => ?_) ?_
  · go_simp
    refine (cloneI_any (HL2.out.below hw (Nat.le_refl _)) (by omega)).mono ?_
    rintro e w9 ⟨A', c', rfl, own9, g9⟩
    exact hK.out ⟨A', c', [], none, 0, 0⟩ _ g9 (own9.mono hw.size)
  simp only [Act.put, List.setIfInBounds_toArray, List.set_cons_zero, List.set_cons_succ]
  repeat (first | (refine Chain.skip hg (fun t => by rfl) ?_; simp only [Act.put, List.setIfInBounds_toArray, List.set_cons_zero, List.set_cons_succ]) | (refine Chain.pure hg (X := ?_) (fun t W hw hN => ⟨by rfl, ?_⟩) ?_; rotate_left; (focus (go_simp <;> with_reducible rfl)); simp only [Act.put, List.setIfInBounds_toArray, List.set_cons_zero, List.set_cons_succ]))
  refine Chain.grow hg (fun s => .pointer (some ⟨s.b, 0, none⟩)) (fun s W => W.heap[s.b]? = some (.cells #[.int .u64 q, .slice s.A k s.c, .slice s.B (k + 1) s.d, .bool true] 85 (0, 0)) ∧ w.heap.size ≤ s.b ∧ s.l.map (·.1) = os ∧ OpsOwn W (fun k => w.heap.size ≤ k) (.slice s.A k s.c) s.l ∧ W.ownsRow w.heap.size 3 1 (.slice s.B (k + 1) s.d) (k + 1) (ins lens)) (fun _ _ _ h g => ⟨row_grow h.1 g, h.2.1, h.2.2.1, h.2.2.2.1.grow g, own_grow h.2.2.2.2 g⟩) (fun _ => by rfl) (fun t W hw hN K hK => ?_) ?_
  · have h8 := hN.get 8 rfl (by kernel_rfl)
    have h13 := hN.get 13 rfl (by kernel_rfl)
    go_simp
    exact hK.out ⟨(t 8).A, (t 8).c, (t 8).l, (t 13).A, (t 13).c, _⟩ _ (Grow.alloc _ _) ⟨heap_alloc_new _ _, hw.size, h8.1, h8.2.grow (Grow.alloc _ _), own_grow h13 (Grow.alloc _ _)⟩
  simp only [Act.put, List.setIfInBounds_toArray, List.set_cons_zero, List.set_cons_succ]
  repeat (first | (refine Chain.skip hg (fun t => by rfl) ?_; simp only [Act.put, List.setIfInBounds_toArray, List.set_cons_zero, List.set_cons_succ]) | (refine Chain.pure hg (X := ?_) (fun t W hw hN => ⟨by rfl, ?_⟩) ?_; rotate_left; (focus (go_simp <;> with_reducible rfl)); simp only [Act.put, List.setIfInBounds_toArray, List.set_cons_zero, List.set_cons_succ]))
  refine Chain.done (fun t W hw hN => ?_)
  obtain ⟨h1, h2, h3, h4, h5⟩ := hN.get 15 rfl (by kernel_rfl)
  generalize t 15 = s at *
  have hW := Lib.hid hw
  have PF : Hid (PastIs W (anew w W) s.b q os lens) := by
    have hll : s.l.length = k := by have := congrArg List.length h3; have h6 := congrArg List.length HOS.out; rw [List.length_map] at this h6; rw [this, ← h6, HLK.out]
    refine ⟨_, s.l, _, h3, PastAt.make h1 h4.row (fun g hg => ⟨h4.rowIn g hg, (h4.row.lt g hg).2⟩) h4.each (fun x hx g hg => ⟨h4.eachIn x hx g hg, ((h4.each x hx).lt g hg).2⟩) (by rw [HN.out]; exact h5.mono (Nat.zero_le _)) (by rw [HN.out, hll]) ⟨h2, (Array.getElem?_eq_some_iff.1 h1).1⟩ (fun g hg => h5.lt g hg) (fun i hi => hi.2)⟩
  clear h1 h2 h3 h4 h5 hN hg c0 c1 c2 hw
  go_wp2
  go_ret
  exact ⟨s.b, rfl, PF.out, hW.out⟩
theorem own_lit (w : World) (e : TypeId) (cs : Array Value) (n sz : Nat) (h : cs.size = n * sz) (hn : n ≤ maxLen) : (w.alloc (.cells cs e)).ownsRow 0 e sz (.slice (some ⟨w.heap.size, 0, none⟩) n n) n cs.toList :=
  ⟨by simpa using h, .inr ⟨w.heap.size, n, cs, rfl, Nat.zero_le _, heap_alloc_new _ _, Nat.le_refl _, hn, h, by rw [← h]; exact List.take_of_length_le (by simp)⟩⟩
theorem anew_two (w : World) (a b : Obj) : anew w ((w.alloc a).alloc b) w.heap.size ∧ anew w ((w.alloc a).alloc b) (w.heap.size + 1) := by
  have h1 : (w.alloc a).heap.size = w.heap.size + 1 := by show (w.heap.push a).size = _; simp
  have h2 : ((w.alloc a).alloc b).heap.size = (w.alloc a).heap.size + 1 := by show ((w.alloc a).heap.push b).size = _; simp
  unfold anew
  omega
set_option maxRecDepth 100000 in
theorem new_ok {q : Nat} {m : Int} {w : World} (hq : q ≤ 1099511627776) (hm : 0 ≤ m) :
    Calls Try.prog 30 #[.int .u64 q, .int .i64 m] w fun e w' => ∃ p : Nat, e = .returned (.tuple #[.pointer (some ⟨p, 0, none⟩), .int .i64 0]) ∧ PastIs w' (anew w w') p q [] [m] ∧ Grow w w' := by
  obtain ⟨z, hz⟩ : ∃ z : Int, (q : Int) = z := ⟨_, rfl⟩
  have HZ := Lib.hid hz
  have d1 : decide (z > 1099511627776) = false := by simp; omega
  have d2 : decide (m < 0) = false := by simp; omega
  rw [hz]
  clear hz
  go_enter Try.func30, Try.ntmps30
  go_wp2
  go_ret2
  refine ⟨_, rfl, ⟨.slice none 0 0, [], .slice (some ⟨w.heap.size, 0, none⟩) 1 1, rfl, PastAt.make (by rw [HZ.out]; exact heap_alloc2_new w _ _) (own_nilO _ _) (fun g h => by cases h) (fun _ h => by cases h) (fun _ h => by cases h) ?_ rfl ?_ (fun g hg => ?_) (fun i hi => hi.2)⟩, (Grow.alloc _ _).trans (Grow.alloc _ _)⟩
  · exact own_grow (own_lit w _ #[.int .i64 m] 1 1 rfl (by decide)) (Grow.alloc _ _)
  · exact (anew_two w _ _).2
  · injection hg with hg
    exact hg ▸ (anew_two w _ _).1
theorem new_bad {q m : Int} {w : World} (h : 1099511627776 < q ∨ m < 0) :
    Calls Try.prog 30 #[.int .u64 q, .int .i64 m] w fun e w' => e = .returned (.tuple #[.pointer none, .int .i64 1]) ∧ w = w' := by
  by_cases hq : 1099511627776 < q
  · have d1 : decide (q > 1099511627776) = true := by simp; omega
    clear h hq
    go_enter Try.func30, Try.ntmps30
    go_wp2
    go_ret2
    exact ⟨rfl, rfl⟩
  · have d1 : decide (q > 1099511627776) = false := by simp; omega
    have d2 : decide (m < 0) = true := by simp; omega
    clear h hq
    go_enter Try.func30, Try.ntmps30
    go_wp2
    go_ret2
    exact ⟨rfl, rfl⟩
end Go.Proofs.Ytfpbmpgdpnpdjaa

