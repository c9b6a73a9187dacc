/-
  lazy: the law's own awake.
-/
import Derived.Test.YtlnokohmmhmoaaaLMsg
namespace Go.Proofs.Ytlnokohmmhmoaaa
open Go.RowKit
set_option linter.unusedSimpArgs false

def aw1 : F := ⟨1, 8, [], -1, 0, [], [], 0, 0, 0, false⟩
def aw2 : F := ⟨1, 8, [], -1, 0, [], [], 0, 1, 0, false⟩
def aw3 : F := ⟨1, 8, [], 0, 8, [114], [⟨1, 0, 3, [], -1, false⟩], 0, 1, 0, true⟩
def aw4 : F := ⟨1, 8, [], 0, 8, [114], [⟨1, 0, 3, [], -1, false⟩], 1, 1, 0, false⟩
def aw5 : F := ⟨1, 8, [], 0, 8, [114], [⟨1, 0, 3, [97, 98, 99], 3, true⟩], 1, 1, 0, true⟩
def aw6 : F := ⟨1, 8, [exP], 0, 8, [114], [⟨1, 0, 3, [97, 98, 99], -1, true⟩], 0, 0, 0, true⟩
theorem rises1 : Rises [exP] := fun i y x _ h => (by simp at h)
theorem RisesC1 : RisesC [dcOf exP] := fun i y x _ h => (by simp at h)
theorem Lies.lt1 {w : World} {n c v : Nat} {A : Option Addr} {l : List Nat} (h : Lies w 1 A n c (byt (v :: l))) : ∀ a, A = some a → a.block < w.heap.size := fun a ha => by
  have := h.cells a ha 0 (.int .u8 v) rfl
  exact block_lt_of_cell this
theorem CWf1 : ∀ x ∈ [dcOf exP], CWf x := fun x hx => by
  simp only [List.mem_singleton] at hx
  subst hx
  exact ⟨by decide, by decide, by decide⟩
theorem PWf1 {l : List (Pt × Value)} (h : l.map (·.1) = [exP]) : ∀ x ∈ l, PWf x.1 := fun x hx => by
  have : x.1 ∈ l.map (·.1) := List.mem_map_of_mem hx
  rw [h] at this
  simp only [List.mem_singleton] at this
  rw [this]
  exact ⟨by decide, by decide, by decide, by decide⟩
theorem handB1 (doc turn : Nat) (bs : List Nat) (h : handOf [exP] doc turn = some bs) : bs.length ≤ 1000 := by
  simp only [handOf, List.foldl] at h
  split at h
  · injection h with h; subst h; decide
  · cases h
theorem PsAt.nil (w : World) (R : Nat → Prop) : PsAt w R none 0 0 [] := ⟨Lies.nil _ _, fun _ h => (by cases h), fun _ h => (by cases h)⟩
set_option maxRecDepth 100000 in
set_option maxHeartbeats 4000000 in
theorem awake_ok {w : World} : Calls Try.prog 9 #[] w fun e w' => e = .returned (.bool true) ∧ Grow w w' := by
  go_enter Try.func9, Try.ntmps9
  go_wp2_with fail
  refine example_ok.mono ?_
  rintro e w1 ⟨A, c, B, d, l, rfl, hL, hA, hP, hl, g1⟩
  have LR := Lib.hid hL; have HA := Lib.hid hA; have PS := Lib.hid hP; have HL := Lib.hid hl; have G1 := Lib.hid g1
  clear hL hA hP hl g1
  go_wp2_with (refine wpList_storeS rfl rfl rfl rfl rfl rfl ?_; intro w2 gS ST2)
  obtain ⟨g, hg⟩ : ∃ g, w1.heap.size = g := ⟨_, rfl⟩
  rw [hg] at ST2 ⊢
  have S2 := ST2.lt
  have ST := Lib.hid ST2
  clear ST2
  refine (fnew_ok (me := 1) (least := 8) (by decide) (by decide) (PsAt.nil w2 NoRow) (fun k h => h.elim) (by intro i y x h; simp at h) (by simp) (by decide)).mono ?_
  rintro e w3 ⟨p, T, R, rfl, F3, hT3, hR3, g3⟩
  have FH := Lib.hid F3; have HT := Lib.hid hT3; have HR := Lib.hid hR3; have G3 := Lib.hid g3; have U3 := Lib.hid F3.ltT
  have z3 := g3.size
  clear F3 hT3 hR3 g3
  go_wp2_with fail
  refine (ask_go (now := 0) FH.out rfl rfl (by decide) (by decide) (by decide) (by decide)).mono ?_
  rintro e w4 ⟨f4, g4, hbr⟩
  have he : e = .returned (.tuple #[.int .i64 (-1), .agg #[.int .i64 14, .int .u64 0, .int .i64 1, .int .u32 0, .int .u64 0, .int .u64 0, .int .u64 8, .int .u64 0, .int .u64 0, .int .u64 0, .int .u64 0, .int .u32 0, .int .u64 0, .slice none 0 0, .int .u32 0, .int .i64 0, .int .i64 0, .bool false, .slice none 0 0, .slice none 0 0], .bool true]) := hbr.elim (fun h => h.2) (fun h => absurd h.1 (by decide))
  subst he
  have F4 := Lib.hid (show FIs w4 T R p aw1 from f4)
  have z4 := g4.size
  have ST4 := Lib.hid ((ST.out.grow G3.out).keep g4 (fun h => by have := HT.out _ h; omega))
  clear f4 hbr
  have G4 := Lib.hid g4
  clear g4
  go_wp2_with (refine wpList_storeM rfl rfl rfl rfl rfl rfl ?_; intro w5 g5 M5)
  obtain ⟨t5, ht5⟩ : ∃ t, w4.heap.size = t := ⟨_, rfl⟩
  rw [ht5] at M5 ⊢
  have S5 := M5.lt
  have M5 := Lib.hid M5
  refine (ask_wait (now := 1) (F4.out.grow g5) rfl rfl (by decide) (by decide) (by decide)).mono ?_
  rintro e w6 ⟨rfl, f6, g6⟩
  have F6 := Lib.hid (show FIs w6 T R p aw2 from f6)
  have M6 := Lib.hid ((M5.out.keep g6 (fun h => by have := U3.out _ h; omega)))
  have ST6 := Lib.hid ((ST4.out.grow g5).keep g6 (fun h => by have := HT.out _ h; omega))
  have z6 := g6.size
  have G6 := Lib.hid g6
  clear f6 g6
  go_wp2_with (first | (refine wpList_storeM rfl rfl rfl rfl rfl rfl ?_; intro w7 g7 M7) | refine wpList_loadS rfl rfl rfl (ST6.out.grow g7) ?_)
  have S7 := M7.lt
  have M7 := Lib.hid M7
  have GA := Lib.hid ((((((gS.trans G3.out).wide T).trans G4.out).trans (g5.wide T)).trans G6.out).trans (g7.wide T))
  have LA := Lib.hid (LR.out.lt1)
  have L7 := Lib.hid (GA.out.liesZ LR.out (fun a ha _ h => by have := LA.out a ha; have := HT.out _ h; omega))
  have P7 := Lib.hid (PS.out.keep GA.out (fun k hk h => by have := HT.out _ h; omega))
  have F7 := Lib.hid (F6.out.grow g7)
  have ST7 := Lib.hid (ST6.out.grow g7)
  refine (planf_ok (me := 0) (op := 8) (rest := [114]) (by decide) (by decide) L7.out P7.out (by rw [HL.out]; exact rises1) (by decide) (by decide)).mono ?_
  rintro e w8 ⟨A1, c1, B1, e1, rfl, o8, q8, g8⟩
  have z7 := GA.out.size
  have z8 := g8.size
  have O8 := Lib.hid o8; have Q8 := Lib.hid q8; have G8 := Lib.hid g8
  have X8 := Lib.hid (own_lt o8); have Y8 := Lib.hid (own_lt q8); have XX8 := Lib.hid (own_addr o8); have YY8 := Lib.hid (own_addr q8)
  clear o8 q8 g8
  go_wp2_with (first | (refine wpList_storeM rfl rfl rfl rfl rfl rfl ?_; intro w9 g9 M9) | refine wpList_loadM rfl rfl rfl M9 ?_)
  have hcs : (l.map fun x => dcOf x.1) = [dcOf exP] := by
    have : (l.map fun x => dcOf x.1) = (l.map (·.1)).map dcOf := by simp
    rw [this, HL.out]; rfl
  have S9 := M9.lt
  have HC := Lib.hid hcs
  have z9 := g9.size
  refine (plan_ok (frm := 0) (op := 8) (F7.out.grow (G8.out.trans g9)) (by decide) (by decide) (by decide) (by decide) (by decide) (Lies.of_own (own_grow O8.out g9)) (fun a ha _ h => by have := U3.out _ h; have := X8.out _ (XX8.out a ha); omega) (by have := Lies.of_own (own_grow Q8.out g9); rw [hcs] at this; exact this) (fun a ha _ h => by have := U3.out _ h; have := Y8.out _ (YY8.out a ha); omega) RisesC1 CWf1 (by decide) (by decide) (fun doc turn bs h => by cases h)).mono ?_
  rintro e w10 ⟨rfl, g10, T', R', f10, hT10, hR10⟩
  have f10 : FIs w10 T' R' p aw3 := f10
  have z10 := g10.size
  have F10 := Lib.hid f10; have U10 := Lib.hid f10.ltT
  have HT' := Lib.hid (show ∀ k, T' k → (w2.heap.size ≤ k ∧ k < w3.heap.size) ∨ w9.heap.size ≤ k from fun k hk => by
    rcases hT10 k hk with h | h
    · exact .inl ⟨HT.out k h, U3.out k h⟩
    · exact .inr h)
  have M10 := Lib.hid (M9.keep g10 (fun h => by have := U3.out _ h; omega))
  have M9 := Lib.hid M9
  have G10 := Lib.hid g10
  clear f10 hT10 hR10 g10 hcs
  go_wp2_with fail
  refine (ask_go (now := 1) F10.out rfl rfl (by decide) (by decide) (by decide) (by decide)).mono ?_
  rintro e w11 ⟨f11, g11, hbr⟩
  have he : e = .returned (.tuple #[.int .i64 0, .agg #[.int .i64 16, .int .u64 0, .int .i64 1, .int .u32 0, .int .u64 0, .int .u64 0, .int .u64 8, .int .u64 0, .int .u64 0, .int .u64 0, .int .u64 0, .int .u32 0, .int .u64 0, .slice none 0 0, .int .u32 1, .int .i64 0, .int .i64 0, .bool false, .slice none 0 0, .slice none 0 0], .bool true]) := by
    rcases hbr with h | ⟨-, i, d, h1, h2, h3⟩
    · exact absurd h.1 (by decide)
    · have h1 : (0 : Int) = (i : Int) := h1
      obtain rfl : i = 0 := by omega
      have h2 : some (⟨1, 0, 3, [], -1, false⟩ : Dt) = some d := h2
      injection h2 with h2
      subst h2
      exact h3
  subst he
  have F11 := Lib.hid (show FIs w11 T' R' p aw4 from f11)
  have z11 := g11.size
  have G11 := Lib.hid g11
  have ST11 := Lib.hid (((ST7.out.grow (G8.out.trans g9)).keep G10.out (fun h => by have := HT.out _ h; omega)).keep g11 (fun h => by have := HT'.out _ h; omega))
  clear f11 g11 hbr
  go_wp2_with (first | (refine wpList_storeM rfl rfl rfl rfl rfl rfl ?_; intro w12 g12 M12) | refine wpList_loadS rfl rfl rfl (ST11.out.grow g12) ?_ | refine wpList_loadM rfl rfl rfl M12 ?_)
  have S12 := M12.lt
  have M12 := Lib.hid M12
  have z12 := g12.size
  have P12 := Lib.hid ((((P7.out.grow (G8.out.trans g9)).keep G10.out (fun k hk h => by have := HT.out _ h; omega)).keep G11.out (fun k hk h => by have := HT'.out _ h; omega)).grow g12)
  refine (piece_ok (me := 0) (frm := 1) (tot := 0) (op := 8) (doc := 1) (off := 0) (i := 0) (x := exP) (by decide) (by decide) P12.out (by rw [HL.out]; rfl) (by rw [HL.out]; rfl) (by decide) (by decide)).mono ?_
  rintro e w13 ⟨A2, k2, c2, rfl, o13, g13⟩
  have hk2 : k2 = 3 := by have := (Lies.of_own o13).bytes_len; rw [← this]; rfl
  subst hk2
  have z13 := g13.size
  have O13 := Lib.hid o13; have G13 := Lib.hid g13; have X13 := Lib.hid (own_lt o13); have XX13 := Lib.hid (own_addr o13)
  clear o13 g13
  go_wp2_with (first | (refine wpList_storeM rfl rfl rfl rfl rfl rfl ?_; intro w14 g14 M14) | refine wpList_loadM rfl rfl rfl M14 ?_)
  have S14 := M14.lt
  have z14 := g14.size
  have V14 := Lib.hid (show ∀ k, T' k → k < w10.heap.size from U10.out)
  refine (take_go (doc := 1) (i := 0) (off := 0) (tot := 3) (d := ⟨1, 0, 3, [], -1, false⟩) (bs := [97, 98, 99]) (F11.out.grow ((g12.trans G13.out).trans g14)) (by decide) rfl rfl (Lies.of_own (own_grow O13.out g14)) (fun a ha _ h => by have := V14.out _ h; have := X13.out _ (XX13.out a ha); omega) (by decide) (by decide)).mono ?_
  rintro e w15 hpost
  obtain ⟨rfl, g15, R2, f15⟩ : e = .returned (.int .i64 0) ∧ GrowS T' w14 w15 ∧ ∃ R' : Nat → Prop, FIs w15 T' R' p aw5 := by
    rcases hpost with h | h
    · exact absurd h.1 (by decide)
    · obtain ⟨-, h1, h2, R2, h3, -⟩ := h
      exact ⟨h1, h2, R2, h3⟩
  have z15 := g15.size
  have F15 := Lib.hid f15; have U15 := Lib.hid f15.ltR
  have ST15 := ((ST11.out.grow ((g12.trans G13.out).trans g14)).keep g15 (fun h => by have := HT'.out _ h; omega))
  have P15 := Lib.hid ((P12.out.grow (G13.out.trans g14)).keep g15 (fun k hk h => by have := HT'.out _ h; omega))
  have d15 := ST15.docs
  have M15 := Lib.hid (((M10.out.keep G11.out (fun h => by have := HT'.out _ h; omega)).grow ((g12.trans G13.out).trans g14)).keep g15 (fun h => by have := HT'.out _ h; omega))
  have O15 := Lib.hid ((own_grow (((own_grow O8.out g9) |> G10.out.own <| (fun g h hh => by have := U3.out _ hh; have := X8.out _ h; omega)) |> G11.out.own <| (fun g h hh => by have := HT'.out _ hh; have := X8.out _ h; have := (O8.out.lt _ h).2; omega)) ((g12.trans G13.out).trans g14)) |> g15.own <| (fun g h hh => by have := HT'.out _ hh; have := X8.out _ h; have := (O8.out.lt _ h).2; omega))
  have Q15 := Lib.hid ((own_grow (((own_grow Q8.out g9) |> G10.out.own <| (fun g h hh => by have := U3.out _ hh; have := Y8.out _ h; omega)) |> G11.out.own <| (fun g h hh => by have := HT'.out _ hh; have := Y8.out _ h; have := (Q8.out.lt _ h).2; omega)) ((g12.trans G13.out).trans g14)) |> g15.own <| (fun g h hh => by have := HT'.out _ hh; have := Y8.out _ h; have := (Q8.out.lt _ h).2; omega))
  have G15 := Lib.hid g15
  clear f15 g15 hpost ST15
  go_wp2_with fail
  refine (fnew_ok (me := 1) (least := 8) (by decide) (by decide) P15.out (fun k h => by omega) (by rw [HL.out]; exact rises1) (PWf1 HL.out) (by decide)).mono ?_
  rw [HL.out]
  rintro e w16 ⟨p2, T3, R3, rfl, f16, hT16, hR16, g16⟩
  have F16 := Lib.hid f16; have T16 := Lib.hid hT16; have R16 := Lib.hid hR16; have G16 := Lib.hid g16; have U16 := Lib.hid f16.ltT
  have z16 := g16.size
  have M16 := Lib.hid (M15.out.grow g16)
  clear f16 hT16 hR16 g16 d15
  go_wp2_with (refine wpList_loadM rfl rfl rfl M16.out ?_)
  refine (plan_ok (frm := 0) (op := 8) F16.out (by decide) (by decide) (by decide) (by decide) (by decide) (Lies.of_own (own_grow O15.out G16.out)) (fun a ha _ h => by have := T16.out _ h; have := (O8.out.lt _ (XX8.out a ha)).2; omega) (by have := Lies.of_own (own_grow Q15.out G16.out); rw [HC.out] at this; exact this) (fun a ha _ h => by have := T16.out _ h; have := (Q8.out.lt _ (YY8.out a ha)).2; omega) RisesC1 CWf1 (by decide) (by decide) handB1).mono ?_
  rintro e w17 ⟨rfl, g17, T5, R5, f17, hT17, hR17⟩
  have f17 : FIs w17 T5 R5 p2 aw6 := f17
  have z17 := g17.size
  have F17 := Lib.hid f17
  have V15 := Lib.hid F15.out.ltT
  have E17 := Lib.hid ((F15.out.grow G16.out).keep g17 (fun k hk h => by have := T16.out _ h; have := V15.out _ hk; omega) (fun k hk h => by have := T16.out _ h; have := U15.out _ hk; omega))
  have a17 := (((((((M6.out.grow (g7.trans (G8.out.trans g9))).keep G10.out (fun h => by have := U3.out _ h; omega)).keep G11.out (fun h => by have := HT'.out _ h; omega)).grow ((g12.trans G13.out).trans g14)).keep G15.out (fun h => by have := HT'.out _ h; omega)).grow G16.out).keep g17 (fun h => by have := T16.out _ h; omega)).kind
  have b17 := ((((M12.out.grow (G13.out.trans g14)).keep G15.out (fun h => by have := V14.out _ h; omega)).grow G16.out).keep g17 (fun h => by have := T16.out _ h; omega)).kind
  have G17 := Lib.hid g17
  clear f17 g17 hT17 hR17
  go_wp2_with fail
  refine (fdone_any E17.out).mono ?_
  rintro e w18 ⟨he, g18⟩
  rw [show doneF aw5 = true from rfl] at he
  subst he
  go_wp2_with fail
  refine (fdone_any (F17.out.grow g18)).mono ?_
  rintro e w19 ⟨he, g19⟩
  rw [show doneF aw6 = true from rfl] at he
  subst he
  go_wp2_with fail
  have y1 := G1.out.size
  have y2 := gS.size
  have b7 := GA.out.over G1.out (fun k hk => by have := HT.out _ hk; omega)
  have b10 := G10.out.over (b7.trans (G8.out.trans g9)) (fun k hk => by have := HT.out _ hk; omega)
  have b11 := G11.out.over b10 (fun k hk => by have := HT'.out _ hk; omega)
  have b15 := G15.out.over (b11.trans ((g12.trans G13.out).trans g14)) (fun k hk => by have := HT'.out _ hk; omega)
  have b17 := G17.out.over (b15.trans G16.out) (fun k hk => by have := T16.out _ hk; omega)
  go_ret
  exact ⟨rfl, b17.trans (g18.trans g19)⟩
end Go.Proofs.Ytlnokohmmhmoaaa

