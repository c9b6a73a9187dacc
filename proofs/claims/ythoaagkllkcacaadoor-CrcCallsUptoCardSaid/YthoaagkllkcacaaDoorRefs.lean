/-
  crc: the contracts of the reference's Join, Mark and Strip; of Strip in one form.
-/
import Derived.Test.YthoaagkllkcacaaDoorFramesWalk
namespace Go.Proofs.YthoaagkllkcacaaDoor
open Go.RowKit
set_option linter.unusedSimpArgs false

theorem lies_one {w : World} {e : TypeId} {g : Nat} (x : Nat) (hg : g = w.heap.size) : Lies (w.alloc (.cells #[.int .u8 (x : Int)] e)) 1 (some ⟨g, 0, none⟩) 1 1 (byt [x]) := lies_lit [x] 1 hg rfl rfl (by decide)
theorem own_nil8 (w : World) (b : Nat) : w.ownsRow b 5 1 (.slice none 0 0) 0 (byt []) := World.ownsRow_nil _ _ _ _
set_option maxRecDepth 100000 in
theorem join_any {A : Option Addr} {k c : Nat} {vs : List (Option Addr × Nat × Nat)} {ls : List (List Nat)} {w : World} (hP : Parts w A k c vs ls) (htot : ls.flatten.length ≤ 1048576) :
    Calls Tryd.prog 9 #[.slice A k c] w fun e w' => ∃ A' N c', e = .returned (.slice A' N c') ∧ Lies w' 1 A' N c' (byt ls.flatten) ∧ Grow w w' := by
  have hle := hP.lies.le
  have hbig := hP.lies.big
  have HT := Lib.hid htot
  go_enter Tryd.func9, Tryd.ntmps9
  go_wp2
  go_loopw [3, 4] (fun v i wr => ∃ (p M : Nat) (A2 : Option Addr) (c2 : Nat), p ≤ k ∧ i = .int .i64 p ∧ v = .slice A2 M c2 ∧ wr.ownsRow w.heap.size 5 1 (.slice A2 M c2) M (byt (ls.take p).flatten) ∧ Below w.heap.size w wr ∧ Hid (M = (ls.take p).flatten.length)) (fun _ i _ => k - (intOf i).toNat)
  case atStart => exact ⟨0, 0, none, 0, Nat.zero_le _, rfl, rfl, own_nil8 _ _, Below.refl _ _, by simp [Hid]⟩
  case round =>
    obtain ⟨p, M, A2, c2, hp, rfl, rfl, own2, hb2, hr2⟩ := hrel
    by_cases hlt : p < k
    · obtain ⟨b, off, rfl, hbs, -⟩ := hP.lies.pos (by omega) (by decide)
      obtain ⟨B, n, d', l, hc, hls, hL, hb⟩ := hP.at_ hlt
      simp only [Option.getD_some, add_none] at hc
      have hc2 := (hb2.cell (p := ⟨b, off + p, none⟩) hbs).trans hc
      have hs : (ls.take (p + 1)).flatten = (ls.take p).flatten ++ l := by
        rw [List.take_add_one, hls, List.flatten_append]; simp
      have hs2 : (ls.take (p + 1)).flatten.length = M + n := by rw [hs, List.length_append, ← hr2.out, hL.bytes_len]
      have hcap : M + n ≤ 1048576 := by
        rw [← hs2]
        refine Nat.le_trans ?_ HT.out
        conv => rhs; rw [← List.take_append_drop (p + 1) ls, List.flatten_append, List.length_append]
        omega
      have HS := Lib.hid hs; have HS2 := Lib.hid hs2
      clear hs hs2 hls hc
      go_wp2_with (at_builtin; refine wpList_app8 rfl (.tmp 11) (.tmp 15) rfl w.heap.size _ M _ rfl own2 B n d' l rfl (hL.below hb2 (Nat.le_refl _)) (by omega) hb2.size ?_; intro A3 c3 w3 own3 L3 bel3)
      have hb3 := bel3 _ _ hb2 (Nat.le_refl _)
      rw [← HS.out] at own3
      clear bel3 own2 L3 hb2
      go_wp2
      go_roundw
      case rel => exact ⟨p + 1, M + n, A3, c3, by omega, by go_num, rfl, own3, hb3, HS2.out.symm⟩
      case measure => simp [intOf]; omega
    · obtain rfl : p = k := by omega
      have e : ls.take p = ls := by rw [← hP.len, List.take_length]
      rw [e] at own2
      have L2 := Lies.of_own own2
      clear e
      go_wp2
      go_ret
      exact ⟨A2, M, c2, rfl, L2, hb2⟩
theorem le4_take (s k : Nat) (hk : k < 4) : (le4 s).take (k + 1) = (le4 s).take k ++ [s / 256 ^ k % 256] := by
  match k, hk with
  | 0, _ => simp [le4]
  | 1, _ => simp [le4]
  | 2, _ => simp [le4]
  | 3, _ => simp [le4]
set_option maxRecDepth 100000 in
theorem rmark_any {A : Option Addr} {n c : Nat} {l : List Nat} {w : World} (hL : Lies w 1 A n c (byt l)) (hl : ∀ x ∈ l, x < 256) (hn : n ≤ 140737488355300) :
    Calls Tryd.prog 15 #[.slice A n c] w fun e w' => ∃ A' N c', e = .returned (.slice A' N c') ∧ Lies w' 1 A' N c' (byt (l ++ le4 (sum l))) ∧ Grow w w' := by
  obtain ⟨S, hS⟩ : ∃ S, sum l = S := ⟨_, rfl⟩
  have hSl : S < 4294967296 := by rw [← hS]; exact sum_lt hl
  have hle := hL.le
  have hbig := hL.big
  have HS := Lib.hid hS; have HB := Lib.hid hl
  clear hS hl
  go_enter Tryd.func15, Tryd.ntmps15
  go_wp2_with fail
  refine (rsum_any hL HB.out).mono ?_
  rw [HS.out]
  rintro e w1 ⟨rfl, rfl⟩
  go_wp2_with (at_builtin; refine wpList_app8 rfl (.tmp 8) (.tmp 9) rfl w.heap.size _ 0 [] rfl (own_nil8 _ _) A n c l rfl hL (by omega) (Nat.le_refl _) ?_; intro A1 c1 w1 own1 L1 bel1)
  have hb1 := bel1 _ _ (Below.refl _ w) (Nat.le_refl _)
  simp only [Nat.zero_add, List.nil_append] at own1 ⊢
  clear bel1 L1
  go_loopw [3, 4, 5] (fun s v i wr => ∃ (p M R : Nat) (A2 : Option Addr) (c2 : Nat), p ≤ 4 ∧ i = .int .i64 p ∧ s = .int .u32 R ∧ v = .slice A2 M c2 ∧ wr.ownsRow w.heap.size 5 1 (.slice A2 M c2) M (byt (l ++ (le4 S).take p)) ∧ Below w.heap.size w wr ∧ Hid (M = n + p) ∧ Hid (R = S / 256 ^ p)) (fun _ _ i _ => 4 - (intOf i).toNat)
  case atStart => exact ⟨0, n, S, A1, c1, by omega, rfl, rfl, rfl, by simpa using own1, hb1, rfl, by simp [Hid]⟩
  case round =>
    obtain ⟨p, M, R, A2, c2, hp, rfl, rfl, rfl, own2, hb2, hM, hR⟩ := hrel
    by_cases hlt : p < 4
    · have hRl : R < 4294967296 := by
        have := Nat.div_le_self S (256 ^ p)
        have := hR.out
        omega
      obtain ⟨x, hx⟩ : ∃ x, x = R % 256 := ⟨_, rfl⟩
      have x1 : (R : Int) % 256 = (x : Int) := by omega
      have x2 : IntKind.u8.wrap (x : Int) = (x : Int) := by rw [IntKind.wrap_u8]; omega
      have hM2 : M ≤ 140737488355304 := by have := hM.out; omega
      have ht := le4_take S p hlt
      rw [← hR.out, ← hx] at ht
      have hR2 : R / 256 = S / 256 ^ (p + 1) := by rw [hR.out, Nat.div_div_eq_div_mul, ← Nat.pow_succ]
      have hM3 : M + 1 = n + (p + 1) := by rw [hM.out]; omega
      have HT := Lib.hid ht; have HR2 := Lib.hid hR2; have HM3 := Lib.hid hM3
      clear ht hR2 hx hM3
      go_wp2_with (at_builtin; refine wpList_app8 rfl (.tmp 15) (.tmp 19) rfl w.heap.size _ M _ rfl (own2.alloc _) (some ⟨wr.heap.size, 0, none⟩) 1 1 [x] rfl (lies_one x rfl) (by omega) (by have := hb2.size; simp; omega) ?_; intro A3 c3 w3 own3 L3 bel3)
      have hb3 := bel3 _ _ (hb2.alloc hb2.size _) (Nat.le_refl _)
      rw [List.append_assoc, ← HT.out] at own3
      clear bel3 own2 L3 hb2
      go_wp2
      go_roundw
      case rel => exact ⟨p + 1, M + 1, R / 256, A3, c3, by omega, by go_num, by go_num, rfl, own3, hb3, HM3.out, HR2.out⟩
      case measure => simp [intOf]; omega
    · obtain rfl : p = 4 := by omega
      have e : (le4 S).take 4 = le4 S := rfl
      rw [e] at own2
      have L2 := Lies.of_own own2
      clear e
      go_wp2
      go_ret
      exact ⟨A2, M, c2, rfl, by rw [HS.out]; exact L2, hb2⟩
def stripB (l : List Nat) : List Nat := if l.length < 4 then [] else if framed l then l.take (l.length - 4) else []
theorem stripB_bytes {l : List Nat} (h : ∀ x ∈ l, x < 256) : ∀ x ∈ stripB l, x < 256 := by
  intro x hx
  unfold stripB at hx
  split at hx
  · cases hx
  · split at hx
    · exact h x (List.mem_of_mem_take hx)
    · cases hx
def StripPost (l : List Nat) (w : World) (e : Ending) (w' : World) : Prop :=
  ∃ A m c, e = .returned (.tuple #[.slice A m c, .int .i64 (stripE l : Nat)]) ∧ w'.ownsRow w.heap.size 5 1 (.slice A m c) m (byt (stripB l)) ∧ Grow w w'
theorem strip_any {A : Option Addr} {n c : Nat} {l : List Nat} {w : World} (hT : Tab w) (hL : Lies w 1 A n c (byt l)) (hl : ∀ x ∈ l, x < 256) (hn : n ≤ 140737488355328) :
    Calls Tryd.prog 11 #[.slice A n c] w (StripPost l w) := by
  have hln := hL.bytes_len
  by_cases h4 : n < 4
  · refine (strip_short hL h4).mono ?_
    rintro e w' ⟨rfl, hb⟩
    exact ⟨none, 0, 0, by simp [stripE, hln, h4], by simp only [stripB, hln, h4, if_true]; exact own_nil8 _ _, hb⟩
  · refine (strip_long hT hL hl (by omega) hn).mono ?_
    rintro e w' ⟨hs, hb⟩
    rcases hs with ⟨hf, rfl⟩ | ⟨hf, A', c', rfl, own, -⟩
    · exact ⟨none, 0, 0, by simp [stripE, hln, h4, hf], by simp only [stripB, hln, h4, if_false, hf, Bool.false_eq_true]; exact own_nil8 _ _, hb⟩
    · exact ⟨A', n - 4, c', by simp [stripE, hln, h4, hf], by simp only [stripB, hln, h4, if_false, hf, if_true]; exact own, hb⟩
theorem framed_iff {l : List Nat} (h4 : ¬ l.length < 4) : framed l = decide (l.take (l.length - 4) ++ le4 (sum (l.take (l.length - 4))) = l) := by
  unfold framed
  rw [Bool.eq_iff_iff, decide_eq_true_eq, decide_eq_true_eq]
  constructor
  · intro h; rw [← h, List.take_append_drop]
  · intro h
    have := congrArg (List.drop (l.length - 4)) h
    rw [List.drop_left' (by rw [List.length_take]; omega)] at this
    exact this.symm
set_option maxRecDepth 100000 in
set_option maxHeartbeats 1000000 in
theorem rstrip_any {A : Option Addr} {n c : Nat} {l : List Nat} {w : World} (hL : Lies w 1 A n c (byt l)) (hl : ∀ x ∈ l, x < 256) (hn : n ≤ 140737488355300) :
    Calls Tryd.prog 12 #[.slice A n c] w (StripPost l w) := by
  have hln := hL.bytes_len
  have hle := hL.le
  have hbig := hL.big
  by_cases h4 : n < 4
  · have q : StripPost l w (.returned (.tuple #[.slice none 0 0, .int .i64 4])) w := ⟨none, 0, 0, by simp [stripE, hln, h4], by simp only [stripB, hln, h4, if_true]; exact own_nil8 _ _, Grow.refl _⟩
    have HQ := Lib.hid q
    clear hln q
    go_enter Tryd.func12, Tryd.ntmps12
    go_wp2_with fail
    go_ret2
    exact HQ.out
  · obtain ⟨k, hk⟩ : ∃ k, n = k + 4 := ⟨n - 4, by omega⟩
    subst hk
    have hc1 := hL.takeb k (by omega)
    have hb1 : ∀ x ∈ l.take k, x < 256 := fun x hx => hl x (List.mem_of_mem_take hx)
    have hfr := framed_iff (l := l) (by omega)
    rw [hln, Nat.add_sub_cancel] at hfr
    have hse := str_eq (a := l.take k ++ le4 (sum (l.take k))) (b := l) (by intro y hy; rcases List.mem_append.1 hy with h | h; exact hb1 y h; exact le4_bytes _ y h) hl
    rw [← hfr] at hse
    have i1 : (0 : Int) ≤ (k : Int) := by omega
    have i2 : (k : Int) ≤ (k : Int) + 4 := by omega
    have i3 : (k : Int) ≤ (c : Int) := by omega
    have v1 : ∀ W : World, Grow w W → (convert 23 9 (.slice A (k + 4) c)).run Tryd.prog W = .ok (.string (str l)) W := fun W h => run_convert_lies (P := Tryd.prog) (hL.below h (Nat.le_refl _)) 23 5 9 Tryd.underlying23 Tryd.underlying5 Tryd.underlying9
    have HB1 := Lib.hid hb1; have HC := Lib.hid hc1; have V1 := Lib.hid v1
    have k4 : ¬ k + 4 < 4 := by omega
    have e1 : ∀ W, Grow w W → framed l = false → StripPost l w (.returned (.tuple #[.slice none 0 0, .int .i64 20])) W := fun W hW h => ⟨none, 0, 0, by simp only [stripE, hln, k4, if_false, h, Bool.false_eq_true]; rfl, by simp only [stripB, hln, k4, if_false, h, Bool.false_eq_true]; exact own_nil8 _ _, hW⟩
    have e2 : framed l = true → stripE l = 0 ∧ stripB l = l.take k := fun h => ⟨by simp only [stripE, hln, k4, if_false, h, if_true], by simp only [stripB, hln, k4, if_false, h, if_true, Nat.add_sub_cancel]⟩
    have E1 := Lib.hid e1; have E2 := Lib.hid e2
    clear hfr hb1 hc1 hln v1 e1 e2 k4
    cases hfc : framed l with
    | false =>
      rw [hfc] at hse
      have HFC := Lib.hid hfc
      have HSE := Lib.hid hse
      clear hfc hse
      go_enter Tryd.func12, Tryd.ntmps12
      go_wp2_with (at_builtin; refine wpList_app8 rfl (.tmp 8) (.tmp 13) rfl w.heap.size _ 0 [] rfl (own_nil8 _ _) A k c (l.take k) rfl HC.out (by omega) (Nat.le_refl _) ?_; intro A1 c1 w1 own1 L1 bel1)
      have hb1 := bel1 _ _ (Below.refl _ w) (Nat.le_refl _)
      simp only [Nat.zero_add, List.nil_append] at own1 L1 ⊢
      clear bel1
      have v1 : ∀ W : World, Grow w1 W → (convert 23 9 (.slice A (k + 4) c)).run Tryd.prog W = .ok (.string (str l)) W := fun W h => V1.out W (then_ hb1 h)
      have hse := HSE.out
      have hO := Lib.hid own1
      have hLL := Lib.hid L1
      have hBB := Lib.hid hb1
      clear own1 L1 hb1
      refine Chain.start (Option Addr × Nat × Nat) (by kernel_rfl) (by kernel_rfl) (fun hg => ?_)
      repeat (first | (refine Chain.skip hg (fun t => by rfl) ?_; simp only [Act.put, List.setIfInBounds_toArray, List.set_cons_zero, List.set_cons_succ]) | (refine Chain.pure hg (X := ?_) (fun t W hw hN => ⟨by rfl, ?_⟩) ?_; rotate_left; (focus (go_simp <;> with_reducible rfl)); simp only [Act.put, List.setIfInBounds_toArray, List.set_cons_zero, List.set_cons_succ]))
      refine Chain.grow hg (fun s => .slice s.1 s.2.1 s.2.2) (fun s W => Lies W 1 s.1 s.2.1 s.2.2 (byt (l.take k ++ le4 (sum (l.take k))))) (fun _ _ _ h k => h.below k (Nat.le_refl _)) (fun _ => by rfl) (fun t W hw hN K hK => ?_) ?_
      · go_simp; refine (rmark_any (hLL.out.below hw (Nat.le_refl _)) HB1.out (by omega)).mono ?_; rintro e w3 ⟨A3, N3, c3, rfl, L3, hg3⟩; exact hK.out (A3, N3, c3) _ hg3 L3
      simp only [Act.put, List.setIfInBounds_toArray, List.set_cons_zero, List.set_cons_succ]
      refine Chain.pure hg (X := fun _ => .string (str (l.take k ++ le4 (sum (l.take k))))) (fun t W hw hN => ⟨by rfl, ?_⟩) ?_
      · have hc := hN.get 1 rfl (by kernel_rfl); have hv := run_convert_lies (P := Tryd.prog) hc 23 5 9 Tryd.underlying23 Tryd.underlying5 Tryd.underlying9; go_simp
      simp only [Act.put, List.setIfInBounds_toArray, List.set_cons_zero, List.set_cons_succ]
      repeat (first | (refine Chain.skip hg (fun t => by rfl) ?_; simp only [Act.put, List.setIfInBounds_toArray, List.set_cons_zero, List.set_cons_succ]) | (refine Chain.pure hg (X := ?_) (fun t W hw hN => ⟨by rfl, ?_⟩) ?_; rotate_left; (focus (go_simp <;> with_reducible rfl)); simp only [Act.put, List.setIfInBounds_toArray, List.set_cons_zero, List.set_cons_succ]))
      refine Chain.done (fun t W hw hN => ?_)
      clear hN hg
      go_wp2
      go_ret2
      exact E1.out _ (then_ hBB.out hw) HFC.out
    | true =>
      rw [hfc] at hse
      have HFC := Lib.hid hfc
      have HSE := Lib.hid hse
      clear hfc hse
      go_enter Tryd.func12, Tryd.ntmps12
      go_wp2_with (at_builtin; refine wpList_app8 rfl (.tmp 8) (.tmp 13) rfl w.heap.size _ 0 [] rfl (own_nil8 _ _) A k c (l.take k) rfl HC.out (by omega) (Nat.le_refl _) ?_; intro A1 c1 w1 own1 L1 bel1)
      have hb1 := bel1 _ _ (Below.refl _ w) (Nat.le_refl _)
      simp only [Nat.zero_add, List.nil_append] at own1 L1 ⊢
      clear bel1
      have v1 : ∀ W : World, Grow w1 W → (convert 23 9 (.slice A (k + 4) c)).run Tryd.prog W = .ok (.string (str l)) W := fun W h => V1.out W (then_ hb1 h)
      have hse := HSE.out
      have hO := Lib.hid own1
      have hLL := Lib.hid L1
      have hBB := Lib.hid hb1
      clear own1 L1 hb1
      refine Chain.start (Option Addr × Nat × Nat) (by kernel_rfl) (by kernel_rfl) (fun hg => ?_)
      repeat (first | (refine Chain.skip hg (fun t => by rfl) ?_; simp only [Act.put, List.setIfInBounds_toArray, List.set_cons_zero, List.set_cons_succ]) | (refine Chain.pure hg (X := ?_) (fun t W hw hN => ⟨by rfl, ?_⟩) ?_; rotate_left; (focus (go_simp <;> with_reducible rfl)); simp only [Act.put, List.setIfInBounds_toArray, List.set_cons_zero, List.set_cons_succ]))
      refine Chain.grow hg (fun s => .slice s.1 s.2.1 s.2.2) (fun s W => Lies W 1 s.1 s.2.1 s.2.2 (byt (l.take k ++ le4 (sum (l.take k))))) (fun _ _ _ h k => h.below k (Nat.le_refl _)) (fun _ => by rfl) (fun t W hw hN K hK => ?_) ?_
      · go_simp; refine (rmark_any (hLL.out.below hw (Nat.le_refl _)) HB1.out (by omega)).mono ?_; rintro e w3 ⟨A3, N3, c3, rfl, L3, hg3⟩; exact hK.out (A3, N3, c3) _ hg3 L3
      simp only [Act.put, List.setIfInBounds_toArray, List.set_cons_zero, List.set_cons_succ]
      refine Chain.pure hg (X := fun _ => .string (str (l.take k ++ le4 (sum (l.take k))))) (fun t W hw hN => ⟨by rfl, ?_⟩) ?_
      · have hc := hN.get 1 rfl (by kernel_rfl); have hv := run_convert_lies (P := Tryd.prog) hc 23 5 9 Tryd.underlying23 Tryd.underlying5 Tryd.underlying9; go_simp
      simp only [Act.put, List.setIfInBounds_toArray, List.set_cons_zero, List.set_cons_succ]
      repeat (first | (refine Chain.skip hg (fun t => by rfl) ?_; simp only [Act.put, List.setIfInBounds_toArray, List.set_cons_zero, List.set_cons_succ]) | (refine Chain.pure hg (X := ?_) (fun t W hw hN => ⟨by rfl, ?_⟩) ?_; rotate_left; (focus (go_simp <;> with_reducible rfl)); simp only [Act.put, List.setIfInBounds_toArray, List.set_cons_zero, List.set_cons_succ]))
      refine Chain.done (fun t W hw hN => ?_)
      clear hN hg
      go_wp2
      go_ret2
      obtain ⟨e3, e4⟩ := E2.out HFC.out
      exact ⟨A1, k, c1, by rw [e3]; rfl, by rw [e4]; exact own_grow hO.out hw, then_ hBB.out hw⟩
end Go.Proofs.YthoaagkllkcacaaDoor

