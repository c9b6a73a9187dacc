/-
  lazy: LazyKnown, walked.
-/
import Derived.Test.YtlnokohmmhmoaaaLErr2
import Derived.Test.YtlnokohmmhmoaaaLQ
namespace Go.Proofs.Ytlnokohmmhmoaaa
open Go.RowKit
set_option linter.unusedSimpArgs false

section
variable {w : World} {K : Nat → Prop} {X Y : Value} {rest : List Nat} {ps : List Pt} {me frm off tot : Int} {op doc : Nat}
theorem srv_none (h : Srv w K X Y rest ps) (h0 : 0 ≤ me) (h7 : me < 7) (hi : idxI (fun d : Pt => decide (d.doc = doc)) ps = -1) :
    Calls Try.prog 15 #[.int .i64 me, .agg #[.int .u64 op, X, Y], .agg #[.int .i64 16, .int .u64 0, .int .i64 frm, .int .u32 0, .int .u64 0, .int .u64 0, .int .u64 op, .int .u64 0, .int .u64 0, .int .u64 0, .int .u64 0, .int .u32 0, .int .u64 0, .slice none 0 0, .int .u32 doc, .int .i64 off, .int .i64 tot, .bool false, .slice none 0 0, .slice none 0 0]] w fun e w' => e = .returned (.tuple #[.agg #[.int .i64 0, .int .u64 0, .int .i64 0, .int .u32 0, .int .u64 0, .int .u64 0, .int .u64 0, .int .u64 0, .int .u64 0, .int .u64 0, .int .u64 0, .int .u32 0, .int .u64 0, .slice none 0 0, .int .u32 0, .int .i64 0, .int .i64 0, .bool false, .slice none 0 0, .slice none 0 0], .int .i64 6]) ∧ Grow w w' := by
  obtain ⟨A, n, c, rfl, -, -⟩ := h.rb.lies
  obtain ⟨B, m, d, l, rfl, hP, hl⟩ := h.docs
  exact piece_none h0 h7 rfl hP (by rw [hl]; exact hi)
theorem srv_range {i : Nat} {x : Pt} (h : Srv w K X Y rest ps) (h0 : 0 ≤ me) (h7 : me < 7) (hi : idxI (fun d : Pt => decide (d.doc = doc)) ps = (i : Int)) (hx : ps[i]? = some x) (hoff : (x.bs.length : Int) < off) (h9 : 0 ≤ off) :
    Calls Try.prog 15 #[.int .i64 me, .agg #[.int .u64 op, X, Y], .agg #[.int .i64 16, .int .u64 0, .int .i64 frm, .int .u32 0, .int .u64 0, .int .u64 0, .int .u64 op, .int .u64 0, .int .u64 0, .int .u64 0, .int .u64 0, .int .u32 0, .int .u64 0, .slice none 0 0, .int .u32 doc, .int .i64 off, .int .i64 tot, .bool false, .slice none 0 0, .slice none 0 0]] w fun e w' => e = .returned (.tuple #[.agg #[.int .i64 0, .int .u64 0, .int .i64 0, .int .u32 0, .int .u64 0, .int .u64 0, .int .u64 0, .int .u64 0, .int .u64 0, .int .u64 0, .int .u64 0, .int .u32 0, .int .u64 0, .slice none 0 0, .int .u32 0, .int .i64 0, .int .i64 0, .bool false, .slice none 0 0, .slice none 0 0], .int .i64 30]) ∧ Grow w w' := by
  obtain ⟨A, n, c, rfl, -, -⟩ := h.rb.lies
  obtain ⟨B, m, d, l, rfl, hP, hl⟩ := h.docs
  exact piece_range h0 h7 rfl hP (by rw [hl]; exact hi) (by rw [hl]; exact hx) hoff h9
end
theorem goodEx : GoodPs [exP] := ⟨fun i x h => by
  match i, h with
  | 0, h => simp at h; subst h; rfl, by decide, fun x h => by simp at h; subst h; decide, fun x h => by simp at h; subst h; exact ⟨by decide, by decide, by decide, by decide⟩⟩
def twoP : Pt := ⟨2, 0, 0, []⟩
def kn1 : F := ⟨0, 9, [], 1, 9, [114], [⟨1, 0, 3, [], -1, false⟩], 0, 0, 0, true⟩
def kn2 : F := ⟨0, 9, [], 1, 9, [114], [⟨1, 0, 3, [97, 98], 3, false⟩], 0, 0, 0, true⟩
def kn3 : F := ⟨0, 9, [], 1, 9, [114], [⟨1, 0, 3, [97, 98, 99], 3, true⟩], 0, 0, 0, true⟩
set_option maxRecDepth 100000 in
set_option maxHeartbeats 8000000 in
theorem lazyKnown_ok {w : World} : Calls Try.prog 6 #[] w fun e w' => e = .returned (.bool true) ∧ Grow w w' := by
  have kc := conv_const
  go_enter Try.func6, Try.ntmps6
  go_wp2_with fail
  refine example_ok.mono ?_
  rintro e w1 ⟨A, c, B, d, l, rfl, hL, hA, hP, hl, g1⟩
  have SV := Lib.hid (show Srv w1 (fun k => k < w1.heap.size) (.slice A 1 c) (.slice B 1 d) [114] [exP] from
    ⟨⟨A, 1, c, rfl, hL, fun a ha _ => hL.lt1 a ha⟩, by decide, ⟨B, 1, d, l, rfl, ⟨hP.row, fun a ha h0 => (hP.rowR a ha h0).2, fun x hx => (hP.each x hx).mono (fun k hk => hk.2)⟩, hl⟩, goodEx⟩)
  have G1 := Lib.hid g1
  clear hL hA hP hl g1
  go_wp2_with (refine wpList_storeS rfl rfl rfl rfl rfl rfl ?_; intro w2 gS ST2)
  obtain ⟨sg, hsg⟩ : ∃ g, w1.heap.size = g := ⟨_, rfl⟩
  have SV2 := Lib.hid (SV.out.grow gS)
  rw [hsg] at ST2 SV2 ⊢
  have S2 := ST2.lt
  have ST := Lib.hid ST2; have GS := Lib.hid gS; have G2 := Lib.hid (G1.out.trans gS)
  clear ST2 gS
  refine (new_me (me := 7) (least := 0) (.inr (by decide))).mono ?_
  rintro e w3 ⟨rfl, g3⟩
  have G3 := Lib.hid g3
  clear g3
  go_wp2_with fail
  have g3b := Grow.alloc w3 (.cells #[.int .u32 2, .int .u64 0, .int .u64 0, .slice none 0 0, .int .u32 2, .int .u64 0, .int .u64 0, .slice none 0 0] 31)
  have L3 : Lies (w3.alloc (.cells #[.int .u32 2, .int .u64 0, .int .u64 0, .slice none 0 0, .int .u32 2, .int .u64 0, .int .u64 0, .slice none 0 0] 31)) 4 (some ⟨w3.heap.size, 0, none⟩) 2 2 ([(twoP, (.slice none 0 0 : Value)), (twoP, .slice none 0 0)].flatMap pcell) := Lies.new w3 31 #[.int .u32 2, .int .u64 0, .int .u64 0, .slice none 0 0, .int .u32 2, .int .u64 0, .int .u64 0, .slice none 0 0] 2 2 (Nat.le_refl _) (by decide) rfl
  generalize w3.alloc (.cells #[.int .u32 2, .int .u64 0, .int .u64 0, .slice none 0 0, .int .u32 2, .int .u64 0, .int .u64 0, .slice none 0 0] 31) = w3b at *
  have L3 := Lib.hid L3; have G3b := Lib.hid (G3.out.trans g3b)
  clear g3b
  refine (new_rise (me := 0) (least := 0) (by decide) (by decide) L3.out (fun x hx => by simp at hx; subst hx; exact ⟨none, 0, 0, rfl⟩) (by decide) (fun y x hy hx => by simp at hy hx; subst hy hx; exact Nat.le_refl _)).mono ?_
  rintro e w4 ⟨rfl, g4⟩
  have G4 := Lib.hid (G3b.out.trans g4)
  clear g4
  go_wp2_with fail
  refine (fnew_ok (me := 0) (least := 9) (by decide) (by decide) (PsAt.nil w4 NoRow) (fun k h => h.elim) (by intro i y x h; simp at h) (by simp) (by decide)).mono ?_
  rintro e w5 ⟨p, T, R, rfl, F5, hT5, hR5, g5⟩
  have F5 := Lib.hid (show FIs w5 T R p (newF 0 9 []) from F5); have HT := Lib.hid hT5; have HRR := Lib.hid hR5; have U5 := Lib.hid F5.ltT
  have G5 := Lib.hid (G4.out.trans g5)
  have s4 := G4.out.size
  have s5 := g5.size
  clear hT5 hR5 g5
  have ST5 := Lib.hid (ST.out.grow G5.out); have SV5 := Lib.hid (SV2.out.grow G5.out)
  go_wp2_with (refine wpList_loadS rfl rfl rfl ST5.out ?_)
  refine (srv_plan (me := 1) (op := 8) SV5.out (by decide) (by decide)).mono ?_
  rintro e w6 ⟨A2, n2, c2, B2, m2, d2, rfl, P6, g6⟩
  have F6 := Lib.hid (F5.out.grow g6); have G6 := Lib.hid (G5.out.trans g6); have ST6 := Lib.hid (ST5.out.grow g6); have SV6 := Lib.hid (SV5.out.grow g6)
  have s6 := g6.size
  have V5 := Lib.hid F5.out.ltR
  clear P6 g6
  go_wp2_with (first | (refine wpList_storeM rfl rfl rfl rfl rfl rfl ?_; intro w7 g7 M7) | refine wpList_loadM rfl rfl rfl M7 ?_)
  have s7 := g7.size
  obtain ⟨m8, hm8⟩ : ∃ g, w6.heap.size = g := ⟨_, rfl⟩
  rw [hm8] at M7 s6 s7 ⊢
  have F7 := Lib.hid (F6.out.grow g7); have G7 := Lib.hid (G6.out.trans g7); have ST7 := Lib.hid (ST6.out.grow g7); have SV7 := Lib.hid (SV6.out.grow g7)
  have S7 := M7.lt
  have M7 := Lib.hid M7
  clear g7
  refine (plan_arg (op := 8) F7.out (by decide) (.inl (by decide))).mono ?_
  rintro e w8 ⟨rfl, g8⟩
  have F8 := Lib.hid (F7.out.grow g8); have G8 := Lib.hid (G7.out.trans g8); have ST8 := Lib.hid (ST7.out.grow g8); have SV8 := Lib.hid (SV7.out.grow g8); have M8 := Lib.hid (M7.out.grow g8)
  have s8 := g8.size
  clear g8
  have q0 := ST8.out.opC
  have fr := frozen_of_row w8 sg 0 _ _ ST8.out
  go_upto_region 10 with fail
  have st9 := heap_setCell_same w8 sg 0 _ _ (.int .u64 9) ST8.out
  have gs9 := GrowS.setCell (T := fun k => k = sg) w8 (p := ⟨sg, 0, none⟩) rfl (.int .u64 9)
  generalize w8.setCell ⟨sg, 0, none⟩ (.int .u64 9) = w9 at *
  have s1 := G1.out.size
  have ST9 := Lib.hid (show StAt w9 sg 9 (.slice A 1 c) (.slice B 1 d) from st9)
  have M9 := Lib.hid (M8.out.keep gs9 (fun e => by omega))
  have F9 := Lib.hid (F8.out.keep gs9 (fun k hk e => by have := HT.out k hk; omega) (fun k hk e => by have := HRR.out k hk; omega))
  have SV9 := Lib.hid (SV8.out.keep gs9 (fun k hk e => by omega))
  have G9 := Lib.hid (gs9.over (G2.out.trans G8.out) (fun k hk => by omega))
  have s9 := gs9.size
  clear q0 fr st9 gs9
  go_wp2_with (refine wpList_loadS rfl rfl rfl ST9.out ?_)
  refine (srv_plan (me := 0) (op := 9) SV9.out (by decide) (by decide)).mono ?_
  rintro e w10 ⟨A3, n3, c3, B3, m3, d3, rfl, P10, g10⟩
  have F10 := Lib.hid (F9.out.grow g10); have G10 := Lib.hid (G9.out.trans g10); have ST10 := Lib.hid (ST9.out.grow g10); have SV10 := Lib.hid (SV9.out.grow g10); have M10 := Lib.hid (M9.out.grow g10)
  have s10 := g10.size
  clear P10 g10
  go_wp2_with (first | (refine wpList_restoreM rfl rfl rfl rfl rfl M10.out ?_; intro w11 gs11 M11) | refine wpList_loadM rfl rfl rfl M11 ?_)
  have F11 := Lib.hid (F10.out.keep gs11 (fun k hk e => by have := U5.out k hk; omega) (fun k hk e => by have := V5.out k hk; omega)); have G11 := Lib.hid (gs11.over G10.out (fun k hk => by omega)); have ST11 := Lib.hid (ST10.out.keep gs11 (fun e => by omega)); have SV11 := Lib.hid (SV10.out.keep gs11 (fun k hk e => by omega))
  have s11 := gs11.size
  have M11 := Lib.hid M11
  clear gs11
  refine (plan_arg (op := 9) F11.out (by decide) (.inr ⟨by decide, rfl⟩)).mono ?_
  rintro e w12 ⟨rfl, g12⟩
  have F12 := Lib.hid (F11.out.grow g12); have G12 := Lib.hid (G11.out.trans g12); have ST12 := Lib.hid (ST11.out.grow g12); have SV12 := Lib.hid (SV11.out.grow g12); have M12 := Lib.hid (M11.out.grow g12)
  have s12 := g12.size
  clear g12
  go_wp2_with fail
  refine (take_state F12.out (.inr (by decide))).mono ?_
  rintro e w13 ⟨rfl, g13⟩
  have F13 := Lib.hid (F12.out.grow g13); have G13 := Lib.hid (G12.out.trans g13); have ST13 := Lib.hid (ST12.out.grow g13); have SV13 := Lib.hid (SV12.out.grow g13); have M13 := Lib.hid (M12.out.grow g13)
  have s13 := g13.size
  clear g13
  go_wp2_with (refine wpList_loadS rfl rfl rfl ST13.out ?_)
  refine (srv_plan (me := 1) (op := 9) SV13.out (by decide) (by decide)).mono ?_
  rintro e w14 ⟨A4, n4, c4, B4, m4, d4, rfl, P14, g14⟩
  have F14 := Lib.hid (F13.out.grow g14); have G14 := Lib.hid (G13.out.trans g14); have ST14 := Lib.hid (ST13.out.grow g14); have SV14 := Lib.hid (SV13.out.grow g14); have M14 := Lib.hid (M13.out.grow g14)
  have s14 := g14.size
  have P14 := Lib.hid P14
  clear g14
  go_wp2_with (first | (refine wpList_restoreM rfl rfl rfl rfl rfl M14.out ?_; intro w15 gs15 M15) | refine wpList_loadM rfl rfl rfl M15 ?_)
  have F15 := Lib.hid (F14.out.keep gs15 (fun k hk e => by have := U5.out k hk; omega) (fun k hk e => by have := V5.out k hk; omega)); have G15 := Lib.hid (gs15.over G14.out (fun k hk => by omega)); have ST15 := Lib.hid (ST14.out.keep gs15 (fun e => by omega)); have SV15 := Lib.hid (SV14.out.keep gs15 (fun k hk e => by omega))
  have P15 := Lib.hid (P14.out.keep gs15 (fun k hk e => by omega))
  have s15 := gs15.size
  have M15 := Lib.hid M15
  clear gs15
  refine (f_plan (op := 9) F15.out (by decide) (by decide) (by decide) (by decide) (by decide) P15.out (fun k hk ht => by have := U5.out k ht; omega) goodEx (by decide) (fun x hx => by cases hx)).mono ?_
  rintro e w16 ⟨rfl, gs16, T6, R6, f16, hT6, hR6⟩
  have F16 := Lib.hid (show FIs w16 T6 R6 p kn1 from f16)
  have HT6 := Lib.hid (show ∀ k, T6 k → w4.heap.size ≤ k ∧ k ≠ m8 from fun k hk => by
    rcases hT6 k hk with h | h
    · have := HT.out k h; have := U5.out k h; omega
    · omega)
  have G16 := Lib.hid (gs16.over G15.out (fun k hk => by have := HT.out k hk; omega))
  have ST16 := Lib.hid (ST15.out.keep gs16 (fun h => by have := HT.out _ h; omega)); have SV16 := Lib.hid (SV15.out.keep gs16 (fun k hk h => by have := HT.out _ h; omega)); have M16 := Lib.hid (M15.out.keep gs16 (fun h => by have := U5.out _ h; omega))
  have U16 := Lib.hid f16.ltT
  have s16 := gs16.size
  clear gs16 f16 hT6 hR6
  go_wp2_with fail
  refine (take_none (doc := 5) F16.out (by decide) (by rfl)).mono ?_
  rintro e w17 ⟨rfl, g17⟩
  have F17 := Lib.hid (F16.out.grow g17); have G17 := Lib.hid (G16.out.trans g17); have ST17 := Lib.hid (ST16.out.grow g17); have SV17 := Lib.hid (SV16.out.grow g17); have M17 := Lib.hid (M16.out.grow g17)
  have s17 := g17.size
  clear g17
  go_wp2_with fail
  have g18 := Grow.alloc w17 (.cells #[.int .u8 98] 5 (1, 2))
  have hL18 : Lies (w17.alloc (.cells #[.int .u8 98] 5 (1, 2))) 1 (some ⟨w17.heap.size, 0, none⟩) 1 1 (byt [98]) := lies_mark [98] 1 rfl (by simp [byt]) rfl (Nat.le_refl _) (by decide)
  generalize w17.alloc (.cells #[.int .u8 98] 5 (1, 2)) = w18 at *
  have LL18 := Lib.hid hL18
  have F18 := Lib.hid (F17.out.grow g18); have G18 := Lib.hid (G17.out.trans g18); have ST18 := Lib.hid (ST17.out.grow g18); have SV18 := Lib.hid (SV17.out.grow g18); have M18 := Lib.hid (M17.out.grow g18)
  have s18 := g18.size
  clear g18 hL18
  refine (take_go (doc := 1) (i := 0) (off := 1) (tot := 3) (d := ⟨1, 0, 3, [], -1, false⟩) (bs := [98]) F18.out (by decide) rfl rfl LL18.out (fun x hx _ ht => by injection hx with hx; subst hx; have h1 : w17.heap.size < w16.heap.size := U16.out _ ht; omega) (by decide) (by decide)).mono ?_
  rintro e w19 hpost
  obtain ⟨rfl, g19⟩ : e = .returned (.int .i64 30) ∧ Grow w18 w19 := by
    rcases hpost with h | h
    · exact h.2
    · exact absurd h.1 (by decide)
  have F19 := Lib.hid (F18.out.grow g19); have G19 := Lib.hid (G18.out.trans g19); have ST19 := Lib.hid (ST18.out.grow g19); have SV19 := Lib.hid (SV18.out.grow g19); have M19 := Lib.hid (M18.out.grow g19)
  have s19 := g19.size
  clear g19 hpost
  go_wp2_with fail
  refine (take_go (doc := 1) (i := 0) (off := 0) (tot := 3) (d := ⟨1, 0, 3, [], -1, false⟩) (bs := []) F19.out (by decide) rfl rfl (Lies.nil _ _) (fun x hx => by cases hx) (by decide) (by decide)).mono ?_
  rintro e w20 hpost
  obtain ⟨rfl, g20⟩ : e = .returned (.int .i64 30) ∧ Grow w19 w20 := by
    rcases hpost with h | h
    · exact h.2
    · exact absurd h.1 (by decide)
  have F20 := Lib.hid (F19.out.grow g20); have G20 := Lib.hid (G19.out.trans g20); have ST20 := Lib.hid (ST19.out.grow g20); have SV20 := Lib.hid (SV19.out.grow g20); have M20 := Lib.hid (M19.out.grow g20)
  have s20 := g20.size
  clear g20 hpost
  go_wp2_with fail
  have g21 := Grow.alloc w20 (.cells #[.int .u8 97, .int .u8 98] 5 (2, 3))
  have hL21 : Lies (w20.alloc (.cells #[.int .u8 97, .int .u8 98] 5 (2, 3))) 1 (some ⟨w20.heap.size, 0, none⟩) 2 2 (byt [97, 98]) := lies_mark [97, 98] 2 rfl (by simp [byt]) rfl (Nat.le_refl _) (by decide)
  generalize w20.alloc (.cells #[.int .u8 97, .int .u8 98] 5 (2, 3)) = w21 at *
  have LL21 := Lib.hid hL21
  have F21 := Lib.hid (F20.out.grow g21); have G21 := Lib.hid (G20.out.trans g21); have ST21 := Lib.hid (ST20.out.grow g21); have SV21 := Lib.hid (SV20.out.grow g21); have M21 := Lib.hid (M20.out.grow g21)
  have s21 := g21.size
  clear g21 hL21
  refine (take_go (doc := 1) (i := 0) (off := 0) (tot := 3) (d := ⟨1, 0, 3, [], -1, false⟩) (bs := [97, 98]) F21.out (by decide) rfl rfl LL21.out (fun x hx _ ht => by injection hx with hx; subst hx; have h1 : w20.heap.size < w16.heap.size := U16.out _ ht; omega) (by decide) (by decide)).mono ?_
  rintro e w22 hpost
  obtain ⟨rfl, gs22, R22, f22⟩ : e = .returned (.int .i64 0) ∧ GrowS T6 w21 w22 ∧ ∃ R' : Nat → Prop, FIs w22 T6 R' p kn2 := by
    rcases hpost with h | h
    · exact absurd h.1 (by decide)
    · obtain ⟨-, h1, h2, R2, h3, -⟩ := h
      exact ⟨h1, h2, R2, h3⟩
  have F22 := Lib.hid f22; have G22 := Lib.hid (gs22.over G21.out (fun k hk => by have := (HT6.out k hk).1; omega)); have ST22 := Lib.hid (ST21.out.keep gs22 (fun h => by have := (HT6.out _ h).1; omega)); have SV22 := Lib.hid (SV21.out.keep gs22 (fun k hk h => by have := (HT6.out _ h).1; omega)); have M22 := Lib.hid (M21.out.keep gs22 (fun h => (HT6.out _ h).2 rfl))
  have s22 := gs22.size
  clear gs22 f22 hpost
  go_wp2_with fail
  have g23 := Grow.alloc w22 (.cells #[.int .u8 99] 5 (1, 2))
  have hL23 : Lies (w22.alloc (.cells #[.int .u8 99] 5 (1, 2))) 1 (some ⟨w22.heap.size, 0, none⟩) 1 1 (byt [99]) := lies_mark [99] 1 rfl (by simp [byt]) rfl (Nat.le_refl _) (by decide)
  generalize w22.alloc (.cells #[.int .u8 99] 5 (1, 2)) = w23 at *
  have LL23 := Lib.hid hL23
  have F23 := Lib.hid (F22.out.grow g23); have G23 := Lib.hid (G22.out.trans g23); have ST23 := Lib.hid (ST22.out.grow g23); have SV23 := Lib.hid (SV22.out.grow g23); have M23 := Lib.hid (M22.out.grow g23)
  have s23 := g23.size
  clear g23 hL23
  refine (take_go (doc := 1) (i := 0) (off := 2) (tot := 4) (d := ⟨1, 0, 3, [97, 98], 3, false⟩) (bs := [99]) F23.out (by decide) rfl rfl LL23.out (fun x hx _ ht => by injection hx with hx; subst hx; have h1 : w22.heap.size < w16.heap.size := U16.out _ ht; omega) (by decide) (by decide)).mono ?_
  rintro e w24 hpost
  obtain ⟨rfl, g24⟩ : e = .returned (.int .i64 30) ∧ Grow w23 w24 := by
    rcases hpost with h | h
    · exact h.2
    · exact absurd h.1 (by decide)
  have F24 := Lib.hid (F23.out.grow g24); have G24 := Lib.hid (G23.out.trans g24); have ST24 := Lib.hid (ST23.out.grow g24); have SV24 := Lib.hid (SV23.out.grow g24); have M24 := Lib.hid (M23.out.grow g24)
  have s24 := g24.size
  clear g24 hpost
  go_wp2_with fail
  have g25 := Grow.alloc w24 (.cells #[.int .u8 99] 5 (1, 2))
  have hL25 : Lies (w24.alloc (.cells #[.int .u8 99] 5 (1, 2))) 1 (some ⟨w24.heap.size, 0, none⟩) 1 1 (byt [99]) := lies_mark [99] 1 rfl (by simp [byt]) rfl (Nat.le_refl _) (by decide)
  generalize w24.alloc (.cells #[.int .u8 99] 5 (1, 2)) = w25 at *
  have LL25 := Lib.hid hL25
  have F25 := Lib.hid (F24.out.grow g25); have G25 := Lib.hid (G24.out.trans g25); have ST25 := Lib.hid (ST24.out.grow g25); have SV25 := Lib.hid (SV24.out.grow g25); have M25 := Lib.hid (M24.out.grow g25)
  have s25 := g25.size
  clear g25 hL25
  refine (take_go (doc := 1) (i := 0) (off := 2) (tot := 3) (d := ⟨1, 0, 3, [97, 98], 3, false⟩) (bs := [99]) F25.out (by decide) rfl rfl LL25.out (fun x hx _ ht => by injection hx with hx; subst hx; have h1 : w24.heap.size < w16.heap.size := U16.out _ ht; omega) (by decide) (by decide)).mono ?_
  rintro e w26 hpost
  obtain ⟨rfl, gs26, R26, f26⟩ : e = .returned (.int .i64 0) ∧ GrowS T6 w25 w26 ∧ ∃ R' : Nat → Prop, FIs w26 T6 R' p kn3 := by
    rcases hpost with h | h
    · exact absurd h.1 (by decide)
    · obtain ⟨-, h1, h2, R2, h3, -⟩ := h
      exact ⟨h1, h2, R2, h3⟩
  have F26 := Lib.hid f26; have G26 := Lib.hid (gs26.over G25.out (fun k hk => by have := (HT6.out k hk).1; omega)); have ST26 := Lib.hid (ST25.out.keep gs26 (fun h => by have := (HT6.out _ h).1; omega)); have SV26 := Lib.hid (SV25.out.keep gs26 (fun k hk h => by have := (HT6.out _ h).1; omega)); have M26 := Lib.hid (M25.out.keep gs26 (fun h => (HT6.out _ h).2 rfl))
  have s26 := gs26.size
  clear gs26 f26 hpost
  go_wp2_with fail
  refine (take_none (doc := 1) F26.out (by decide) (by rfl)).mono ?_
  rintro e w27 ⟨rfl, g27⟩
  have F27 := Lib.hid (F26.out.grow g27); have G27 := Lib.hid (G26.out.trans g27); have ST27 := Lib.hid (ST26.out.grow g27); have SV27 := Lib.hid (SV26.out.grow g27); have M27 := Lib.hid (M26.out.grow g27)
  have s27 := g27.size
  clear g27
  go_wp2_with (refine wpList_loadS rfl rfl rfl ST27.out ?_)
  refine (piece_state (me := 0) (op := 9) (op2 := 8) (doc := 1) (by decide) (by decide) (by decide)).mono ?_
  rintro e w28 ⟨rfl, g28⟩
  have F28 := Lib.hid (F27.out.grow g28); have G28 := Lib.hid (G27.out.trans g28); have ST28 := Lib.hid (ST27.out.grow g28); have SV28 := Lib.hid (SV27.out.grow g28); have M28 := Lib.hid (M27.out.grow g28)
  have s28 := g28.size
  clear g28
  go_wp2_with (first | (refine wpList_storeM rfl rfl rfl rfl rfl rfl ?_; intro w29 g29 MZ; have STx := ST28.out.grow g29) | refine wpList_loadS rfl rfl rfl STx ?_)
  have F29 := Lib.hid (F28.out.grow g29); have G29 := Lib.hid (G28.out.trans g29); have ST29 := Lib.hid (ST28.out.grow g29); have SV29 := Lib.hid (SV28.out.grow g29); have M29 := Lib.hid (M28.out.grow g29)
  have s29 := g29.size
  clear g29 MZ STx
  refine (srv_none (me := 0) (op := 9) (doc := 2) SV29.out (by decide) (by decide) (by rfl)).mono ?_
  rintro e w30 ⟨rfl, g30⟩
  have F30 := Lib.hid (F29.out.grow g30); have G30 := Lib.hid (G29.out.trans g30); have ST30 := Lib.hid (ST29.out.grow g30); have SV30 := Lib.hid (SV29.out.grow g30); have M30 := Lib.hid (M29.out.grow g30)
  have s30 := g30.size
  clear g30
  go_wp2_with (first | (refine wpList_storeM rfl rfl rfl rfl rfl rfl ?_; intro w31 g31 MZ; have STx := ST30.out.grow g31) | refine wpList_loadS rfl rfl rfl STx ?_)
  have F31 := Lib.hid (F30.out.grow g31); have G31 := Lib.hid (G30.out.trans g31); have ST31 := Lib.hid (ST30.out.grow g31); have SV31 := Lib.hid (SV30.out.grow g31); have M31 := Lib.hid (M30.out.grow g31)
  have s31 := g31.size
  clear g31 MZ STx
  refine (srv_range (me := 0) (op := 9) (doc := 1) (i := 0) (x := exP) (off := 4) SV31.out (by decide) (by decide) (by rfl) rfl (by decide) (by decide)).mono ?_
  rintro e w32 ⟨rfl, g32⟩
  have F32 := Lib.hid (F31.out.grow g32); have G32 := Lib.hid (G31.out.trans g32); have ST32 := Lib.hid (ST31.out.grow g32); have SV32 := Lib.hid (SV31.out.grow g32); have M32 := Lib.hid (M31.out.grow g32)
  have s32 := g32.size
  clear g32
  go_wp2_with (first | (refine wpList_storeM rfl rfl rfl rfl rfl rfl ?_; intro w33 g33 MZ; have STx := ST32.out.grow g33) | refine wpList_loadS rfl rfl rfl STx ?_)
  have F33 := Lib.hid (F32.out.grow g33); have G33 := Lib.hid (G32.out.trans g33); have ST33 := Lib.hid (ST32.out.grow g33); have SV33 := Lib.hid (SV32.out.grow g33); have M33 := Lib.hid (M32.out.grow g33)
  have s33 := g33.size
  clear g33 MZ STx
  refine (srv_piece (me := 0) (frm := 0) (tot := 0) (op := 9) (off := 3) (i := 0) (x := exP) SV33.out (by decide) (by decide) rfl (by decide)).mono ?_
  rintro e w34 ⟨A5, k5, c5, he, b34, g34⟩
  have hk5 : k5 = 0 := by have := b34.len.2.1; rw [← this]; rfl
  subst hk5
  have he : e = .returned (.tuple #[.agg #[.int .i64 17, .int .u64 0, .int .i64 0, .int .u32 0, .int .u64 0, .int .u64 0, .int .u64 9, .int .u64 0, .int .u64 0, .int .u64 0, .int .u64 0, .int .u32 0, .int .u64 0, .slice none 0 0, .int .u32 1, .int .i64 3, .int .i64 3, .bool false, .slice A5 0 c5, .slice none 0 0], .int .i64 0]) := he
  subst he
  have F34 := Lib.hid (F33.out.grow g34); have G34 := Lib.hid (G33.out.trans g34); have ST34 := Lib.hid (ST33.out.grow g34); have SV34 := Lib.hid (SV33.out.grow g34); have M34 := Lib.hid (M33.out.grow g34)
  have s34 := g34.size
  clear g34 b34
  obtain ⟨i0, hi, hz0, hz1, hz2⟩ := info_parts info_ptt
  go_wp2_with (first
    | (refine wpList_storeM rfl rfl rfl rfl rfl rfl ?_; intro w35 g35 MU)
    | (at_make; refine wpList_make_full _ rfl _ _ 24 rfl w35.heap.size 31 i0 _ 4 Try.underlying24 hi hz0 hz1 .i64 .i64 _ _ 33 rfl rfl rfl rfl (by rw [hz2]; decide) (by simp [maxLen]) (Nat.le_refl _) ?_; intro w36 hown36 hg36))
  have g36 := g35.trans (hg36.wide (T := NoRow) (fun k hk => by cases hk)).no
  have MU36 := Lib.hid (MU.grow (hg36.wide (T := NoRow) (fun k hk => by cases hk)).no)
  have F36 := Lib.hid (F34.out.grow g36); have G36 := Lib.hid (G34.out.trans g36); have M36 := Lib.hid (M34.out.grow g36)
  clear g35 MU hown36 hg36 g36 hi hz0 hz1 hz2
  refine (planf_many (me := 0) (op := 0) (by decide) (by decide) (by decide)).mono ?_
  rintro e w37 ⟨rfl, g37⟩
  have F37 := Lib.hid (F36.out.grow g37); have G37 := Lib.hid (G36.out.trans g37); have M37 := Lib.hid (M36.out.grow g37); have MU37 := Lib.hid (MU36.out.grow g37)
  clear g37
  go_wp2_with (refine wpList_storeM rfl rfl rfl rfl rfl rfl ?_; intro w38 g38 MZ)
  have F38 := Lib.hid (F37.out.grow g38); have G38 := Lib.hid (G37.out.trans g38); have M38 := Lib.hid (M37.out.grow g38); have MU38 := Lib.hid (MU37.out.grow g38)
  clear g38 MZ
  refine (ask_nil (now := 0)).mono ?_
  rintro e w39 ⟨rfl, g39⟩
  have F39 := Lib.hid (F38.out.grow g39); have G39 := Lib.hid (G38.out.trans g39); have M39 := Lib.hid (M38.out.grow g39); have MU39 := Lib.hid (MU38.out.grow g39)
  clear g39
  go_wp2_with (refine wpList_storeM rfl rfl rfl rfl rfl rfl ?_; intro w40 g40 MZ)
  have F40 := Lib.hid (F39.out.grow g40); have G40 := Lib.hid (G39.out.trans g40); have M40 := Lib.hid (M39.out.grow g40); have MU40 := Lib.hid (MU39.out.grow g40)
  clear g40 MZ
  refine state_nil.mono ?_
  rintro e w41 ⟨rfl, g41⟩
  have F41 := Lib.hid (F40.out.grow g41); have G41 := Lib.hid (G40.out.trans g41); have M41 := Lib.hid (M40.out.grow g41); have MU41 := Lib.hid (MU40.out.grow g41)
  clear g41
  go_wp2_with (refine wpList_storeS rfl rfl rfl rfl rfl rfl ?_; intro w42 g42 SZ)
  have F42 := Lib.hid (F41.out.grow g42); have G42 := Lib.hid (G41.out.trans g42); have M42 := Lib.hid (M41.out.grow g42); have MU42 := Lib.hid (MU41.out.grow g42)
  clear g42 SZ
  refine awake_ok.mono ?_
  rintro e w43 ⟨rfl, g43⟩
  have F43 := Lib.hid (F42.out.grow g43); have G43 := Lib.hid (G42.out.trans g43); have M43 := Lib.hid (M42.out.grow g43); have MU43 := Lib.hid (MU42.out.grow g43)
  clear g43
  go_wp2_with fail
  refine (fdone_any F43.out).mono ?_
  rintro e w44 ⟨he, g44⟩
  rw [show doneF kn3 = true from rfl] at he
  subst he
  have G44 := Lib.hid (G43.out.trans g44); have M44 := Lib.hid (M43.out.grow g44); have MU44 := Lib.hid (MU43.out.grow g44)
  clear g44
  have u16 : w44.cell? ⟨w34.heap.size, 16, none⟩ = some (.int .i64 3) := MU44.out.load 16
  have u18 : w44.cell? ⟨w34.heap.size, 18, none⟩ = some (.slice A5 0 c5) := MU44.out.load 18
  go_wp2_with (refine wpList_unguard (by rfl) ?_; refine wpList_loadM rfl rfl rfl M44.out ?_)
  clear u16 u18
  refine plan_nil.mono ?_
  rintro e w45 ⟨rfl, g45⟩
  have G45 := Lib.hid (G44.out.trans g45); have M45 := Lib.hid (M44.out.grow g45)
  clear g45
  go_wp2_with (refine wpList_unguard (by rfl) ?_; refine wpList_loadM rfl rfl rfl M45.out ?_)
  refine take_nil.mono ?_
  rintro e w46 ⟨rfl, g46⟩
  have G46 := Lib.hid (G45.out.trans g46)
  clear g46
  go_wp2_with fail
  refine done_nil.mono ?_
  rintro e w47 ⟨rfl, rfl⟩
  go_wp2_with fail
  refine copy_nil.mono ?_
  rintro e w48 ⟨rfl, rfl⟩
  go_wp2
  go_ret
  exact ⟨rfl, G46.out⟩
end Go.Proofs.Ytlnokohmmhmoaaa

