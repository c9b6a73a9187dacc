/-
  lazy: the contract of the law's proper.
-/
import Derived.Test.YtlnokohmmhmoaaaLFew
import Derived.Test.YtlnokohmmhmoaaaLLaw
namespace Go.Proofs.Ytlnokohmmhmoaaa
open Go.RowKit
set_option linter.unusedSimpArgs false

def properP (ps : List Pt) : List Pt := ((fewP ps).take 20).mapIdx fun i x => { x with doc := i + 1 }
theorem properP_numbered (ps : List Pt) : Numbered (properP ps) := fun i x hx => by
  unfold properP at hx
  rw [List.getElem?_mapIdx] at hx
  cases h : ((fewP ps).take 20)[i]? with
  | none => rw [h] at hx; cases hx
  | some y => rw [h] at hx; simp at hx; subst hx; rfl
theorem properP_len (ps : List Pt) : (properP ps).length ≤ 20 := by
  unfold properP
  rw [List.length_mapIdx, List.length_take]
  omega
theorem properP_mem {ps : List Pt} {x : Pt} (h : x ∈ properP ps) : x.bs.length ≤ 300 ∧ ∃ y ∈ ps, x.rev = y.rev ∧ x.turn = y.turn ∧ x.bs = y.bs.take 300 := by
  obtain ⟨i, hi, hx⟩ := List.mem_iff_getElem.1 h
  have hx : (properP ps)[i]? = some x := by rw [← hx]; exact List.getElem?_eq_getElem hi
  unfold properP at hx
  rw [List.getElem?_mapIdx] at hx
  cases hq : ((fewP ps).take 20)[i]? with
  | none => rw [hq] at hx; cases hx
  | some y =>
    rw [hq] at hx
    simp at hx
    subst hx
    have hy := List.mem_of_mem_take (List.mem_of_getElem? hq)
    unfold fewP at hy
    obtain ⟨z, hz, rfl⟩ := List.mem_map.1 hy
    exact ⟨by simp [cutP]; omega, z, List.mem_of_mem_take hz, rfl, rfl, rfl⟩
def ProperPost (R0 : Nat → Prop) (A : Option Addr) (op n c : Nat) (l : List (Pt × Value)) (w : World) (e : Ending) (w' : World) : Prop :=
  ∃ (q n' : Nat) (B' : Option Addr) (m' d' : Nat) (l' : List (Pt × Value)), e = .returned (.agg #[.int .u64 q, .slice A n' c, .slice B' m' d']) ∧ q = op % 1099511627776 ∧ n' = min n 300 ∧
      w'.ownsRow w.heap.size 31 4 (.slice B' m' d') m' (l'.flatMap pcell) ∧ (∀ x ∈ l', BytesAt w' R0 x.2 x.1.bs) ∧ l'.map (·.1) = properP (l.map (·.1)) ∧ Grow w w'
set_option maxRecDepth 100000 in
set_option maxHeartbeats 4000000 in
theorem proper_any {op n c m d : Nat} {A B : Option Addr} {rest : List Nat} {l : List (Pt × Value)} {R0 : Nat → Prop} {w : World} (hL : Lies w 1 A n c (byt rest)) (hP : PsAt w R0 B m d l) (hR0 : ∀ k, R0 k → k < w.heap.size) :
    Calls Try.prog 7 #[.agg #[.int .u64 op, .slice A n c, .slice B m d]] w (ProperPost R0 A op n c l w) := by
  obtain ⟨q, hq⟩ : ∃ q : Nat, q = op % 1099511627776 := ⟨_, rfl⟩
  have tq : Int.tmod (op : Int) 1099511627776 = (q : Int) := by rw [hq]; rfl
  obtain ⟨mm, hmm, hmm2⟩ := cut_min n 300 300 rfl
  have hle := hL.le
  have k0 : (0 : Int) ≤ (mm : Int) := by omega
  have k1 : (mm : Int) ≤ (n : Int) := by omega
  have k2 : (mm : Int) ≤ (c : Int) := by omega
  have HL := Lib.hid hL; have HP := Lib.hid hP; have HR0 := Lib.hid hR0; have HQ := Lib.hid hq; have HM2 := Lib.hid hmm2
  have sb := heap_alloc2_old w (.cells #[.int .u64 op, .slice A n c, .slice B m d] 26) (.cells #[.int .u64 0, .slice none 0 0, .slice none 0 0] 26)
  have rb := heap_alloc2_new w (.cells #[.int .u64 op, .slice A n c, .slice B m d] 26) (.cells #[.int .u64 0, .slice none 0 0, .slice none 0 0] 26)
  obtain ⟨w1, hw1⟩ : ∃ w1, (w.alloc (.cells #[.int .u64 op, .slice A n c, .slice B m d] 26)).alloc (.cells #[.int .u64 0, .slice none 0 0, .slice none 0 0] 26) = w1 := ⟨_, rfl⟩
  have g1 : Grow w w1 := hw1 ▸ (Grow.alloc w _).trans (Grow.alloc _ _)
  rw [hw1] at sb rb
  have SB := Lib.hid sb; have RB := Lib.hid rb; have G1 := Lib.hid g1; have HW1 := Lib.hid hw1
  clear hL hP hR0 hq hmm2 g1 hw1 rb hle
  go_enter Try.func7, Try.ntmps7
  go_upto_region 1 with fail
  rw [HW1.out]
  have s0 := cell_of_row w1 _ 0 _ _ (0, 0) sb
  have b0 := frozen_of_row w1 _ 0 _ _ sb
  go_upto_region 2 with fail
  have st1 := heap_setCell_same w1 w.heap.size 0 _ _ (.int .u64 q) SB.out
  have gs1 := GrowS.setCell (T := fun k => k = w.heap.size) w1 (p := ⟨w.heap.size, 0, none⟩) rfl (.int .u64 q)
  have SB1 := Lib.hid (show (w1.setCell ⟨w.heap.size, 0, none⟩ (.int .u64 q)).heap[w.heap.size]? = some (.cells #[.int .u64 q, .slice A n c, .slice B m d] 26 (0, 0)) by simpa using st1)
  have G1' := Lib.hid (gs1.over G1.out (fun k hk => by omega))
  have RB1 := Lib.hid (gs1.kept RB.out (by omega))
  generalize w1.setCell ⟨w.heap.size, 0, none⟩ (.int .u64 q) = w2 at *
  clear st1 gs1 s0 b0 sb SB RB
  have s1 := cell_of_row w2 _ 1 _ _ (0, 0) SB1.out
  have b1 := frozen_of_row w2 _ 1 _ _ SB1.out
  go_upto_region 3 with fail
  have st1 := heap_setCell_same w2 w.heap.size 1 _ _ (.slice A mm c) SB1.out
  have gs1 := GrowS.setCell (T := fun k => k = w.heap.size) w2 (p := ⟨w.heap.size, 1, none⟩) rfl (.slice A mm c)
  have SB2 := Lib.hid (show (w2.setCell ⟨w.heap.size, 1, none⟩ (.slice A mm c)).heap[w.heap.size]? = some (.cells #[.int .u64 q, .slice A mm c, .slice B m d] 26 (0, 0)) by simpa using st1)
  have G2 := Lib.hid (gs1.over G1'.out (fun k hk => by omega))
  have RB2 := Lib.hid (gs1.kept RB1.out (by omega))
  generalize w2.setCell ⟨w.heap.size, 1, none⟩ (.slice A mm c) = w3 at *
  clear st1 gs1 s1 b1 SB1 RB1 G1' k0 k1 k2 hmm tq
  have s2 := cell_of_row w3 _ 2 _ _ (0, 0) SB2.out
  go_wp2_with fail
  refine (few_any (HP.out.grow G2.out) (fun k hk => Nat.lt_of_lt_of_le (HR0.out k hk) G2.out.size)).mono ?_
  rintro e w4 ⟨A4, n4, c4, l4, rfl, own4, each4, map4, g4⟩
  have O4 := Lib.hid own4; have E4 := Lib.hid each4; have M4 := Lib.hid map4
  have SB4 := Lib.hid (row_grow SB2.out g4); have RB4 := Lib.hid (row_grow RB2.out g4); have G4 := Lib.hid (G2.out.trans g4)
  have N4 := Lib.hid (show l4.length = n4 from Lies.flat_n pcell_len (by decide) (Lies.of_own own4))
  have hn4 : n4 ≤ 40 := by rw [← N4.out, ← List.length_map (f := (·.1)), M4.out]; unfold fewP; simp; omega
  have SZ := Lib.hid (show w.heap.size + 2 ≤ w3.heap.size by have := (Array.getElem?_eq_some_iff.1 RB2.out).1; omega)
  clear own4 each4 map4 g4 s2
  go_wp2
  obtain ⟨k4, hk4⟩ : ∃ k4, min n4 20 = k4 := ⟨_, rfl⟩
  obtain ⟨ps, hps⟩ : ∃ ps, properP (l.map (·.1)) = ps := ⟨_, rfl⟩
  have HK4 := Lib.hid hk4; have HPS := Lib.hid hps
  have hk20 : k4 ≤ 20 := by omega
  have hkn : k4 ≤ n4 := by omega
  have hpl : ps.length = k4 := by rw [← hps]; unfold properP; rw [List.length_mapIdx, List.length_take, ← M4.out, List.length_map, N4.out]; omega
  have hpa : ∀ (j : Nat) (x : Pt) (v : Value), l4[j]? = some (x, v) → j < 20 → ps[j]? = some { x with doc := j + 1 } := fun j x v hx hj => by
    rw [← hps]
    unfold properP
    rw [List.getElem?_mapIdx, List.getElem?_take, if_pos hj, ← M4.out, List.getElem?_map, hx]
    rfl
  have HPL := Lib.hid hpl; have HPA := Lib.hid hpa
  clear hk4 hps hpl hpa
  go_loopw [3, 22] (fun v i wr => ∃ (j : Nat) (B1 : Option Addr) (e1 : Nat) (l1 : List (Pt × Value)), j ≤ k4 ∧ i = .int .i64 j ∧ v = .slice B1 j e1 ∧ Hid (wr.ownsRow w4.heap.size 31 4 (.slice B1 j e1) j (l1.flatMap pcell)) ∧ Hid (∀ x ∈ l1, BytesAt wr R0 x.2 x.1.bs) ∧ Hid (l1.map (·.1) = ps.take j) ∧ Hid (wr.heap[w.heap.size]? = some (.cells #[.int .u64 q, .slice A mm c, .slice B m d] 26 (0, 0))) ∧ Hid (wr.heap[w.heap.size + 1]? = some (.cells #[.int .u64 0, .slice none 0 0, .slice none 0 0] 26 (0, 0))) ∧ GrowS (fun k => w4.heap.size ≤ k) w4 wr) (fun _ i _ => n4 - (intOf i).toNat)
  case atStart => exact ⟨0, none, 0, [], Nat.zero_le _, rfl, rfl, World.ownsRow_nil _ _ _ _, (fun x hx => by cases hx), rfl, SB4, RB4, GrowS.refl _ _⟩
  case round =>
    obtain ⟨j, B1, e1, l1, hj, rfl, rfl, hO, hE, hM, hS, hB, hg⟩ := hrel
    have GR := Lib.hid hg
    have GW := Lib.hid (hg.over G4.out (fun k hk => Nat.le_trans G4.out.size hk))
    clear hg
    by_cases hlt : j < n4
    · obtain ⟨⟨x, v⟩, hx⟩ : ∃ x, l4[j]? = some x := ⟨_, List.getElem?_eq_getElem (by have := N4.out; omega)⟩
      obtain ⟨A7, k, c7, hv, L7, hR7⟩ := (E4.out _ (List.mem_of_getElem? hx)).lies
      simp only at hv L7
      subst hv
      have O4r := Lib.hid (GR.out.own O4.out (fun g hg => by have := (O4.out.lt g hg).2; omega))
      obtain ⟨gd, cd, hA4⟩ := own_pos O4r.out (by omega)
      injection hA4 with hA4 _ hc4
      subst hA4 hc4
      have x0 := Lies.flat_cell (j := 0) pcell_len (Lies.of_own O4r.out) hx rfl
      have x1 := Lies.flat_cell (j := 1) pcell_len (Lies.of_own O4r.out) hx rfl
      have x2 := Lies.flat_cell (j := 2) pcell_len (Lies.of_own O4r.out) hx rfl
      have x3 := Lies.flat_cell (j := 3) pcell_len (Lies.of_own O4r.out) hx rfl
      simp only [Nat.add_zero, Nat.zero_add] at x0 x1 x2 x3
      have HX := Lib.hid hx; have H7 := Lib.hid (show BytesAt wr R0 (.slice A7 k c7) x.bs from (E4.out _ (List.mem_of_getElem? hx)).keep GR.out (fun q hq e => by have := HR0.out q hq; have := G4.out.size; omega))
      clear hx L7 hR7
      go_upto_region 7 with fail
      have hbox := heap_alloc_new wr (.cells #[.int .u32 x.doc, .int .u64 x.rev, .int .u64 x.turn, .slice A7 k c7] 31)
      have ga := Grow.alloc wr (.cells #[.int .u32 x.doc, .int .u64 x.rev, .int .u64 x.turn, .slice A7 k c7] 31)
      generalize wr.alloc _ = wa at *
      have BX := Lib.hid hbox; have GA := Lib.hid ga
      clear hbox ga x0 x1 x2 x3
      by_cases h20 : j = 20
      · have e20 : ((j : Int) == 20) = true := by simp [h20]
        have hjk : k4 = j := by omega
        clear h20
        have SA := Lib.hid (row_grow hS.out GA.out); have BA := Lib.hid (row_grow hB.out GA.out); have OA := Lib.hid (own_grow hO.out GA.out)
        have EA := Lib.hid (show ∀ x ∈ l1, BytesAt wa R0 x.2 x.1.bs from fun x hx => (hE.out x hx).grow GA.out)
        have GWA := Lib.hid (GW.out.trans GA.out)
        go_upto_region 11 with fail
        have a2 := cell_of_row wa _ 2 _ _ (0, 0) SA.out
        have b2 := frozen_of_row wa _ 2 _ _ SA.out
        have st := heap_setCell_same wa w.heap.size 2 _ _ (.slice B1 j e1) SA.out
        have gs := GrowS.setCell (T := fun k => k = w.heap.size) wa (p := ⟨w.heap.size, 2, none⟩) rfl (.slice B1 j e1)
        have S5 := Lib.hid (show (wa.setCell ⟨w.heap.size, 2, none⟩ (.slice B1 j e1)).heap[w.heap.size]? = some (.cells #[.int .u64 q, .slice A mm c, .slice B1 j e1] 26 (0, 0)) by simpa using st)
        have B5 := Lib.hid (gs.kept BA.out (by omega))
        have O5 := Lib.hid (gs.own OA.out (fun k hk e => row_apart OA.out SA.out (by decide) k hk e))
        have E5 := Lib.hid (show ∀ x ∈ l1, BytesAt (wa.setCell ⟨w.heap.size, 2, none⟩ (.slice B1 j e1)) R0 x.2 x.1.bs from fun x hx => (EA.out x hx).keep gs (fun k hk e => by have := HR0.out k hk; omega))
        have G5 := Lib.hid (gs.over GWA.out (fun k hk => by omega))
        clear st gs
        go_upto_region 12 with fail
        generalize wa.setCell ⟨w.heap.size, 2, none⟩ (.slice B1 j e1) = wb at *
        clear a2 b2
        have d0 : wb.cell? ⟨w.heap.size, 0, none⟩ = some (.int .u64 q) := cell_of_row wb _ 0 _ _ (0, 0) S5.out
        have d1 : wb.cell? ⟨w.heap.size, 1, none⟩ = some (.slice A mm c) := cell_of_row wb _ 1 _ _ (0, 0) S5.out
        have d2 : wb.cell? ⟨w.heap.size, 2, none⟩ = some (.slice B1 j e1) := cell_of_row wb _ 2 _ _ (0, 0) S5.out
        go_wp2_with (
          refine wpList_store_row rfl _ _ _ rfl (w.heap.size + 1) #[.int .u64 q, .slice A mm c, .slice B1 j e1] rfl rfl _ _ B5.out (by kernel_rfl) rfl (by simp [Value.oneCell']) ?_)
        have hrw := setRow_heap wb (w.heap.size + 1) _ #[.int .u64 q, .slice A mm c, .slice B1 j e1] _ _ B5.out
        have g3 := GrowS.setRow (T := fun i => i = w.heap.size + 1) wb rfl #[.int .u64 q, .slice A mm c, .slice B1 j e1]
        go_wp2
        refine bodyPost_ret (v := .agg #[.int .u64 q, .slice A mm c, .slice B1 j e1]) (results_cell_row rfl _ _ (w.heap.size + 1) _ _ _ _ rfl hrw Try.underlying26 rfl (by kernel_rfl)) rfl ⟨q, mm, B1, j, e1, l1, rfl, HQ.out, HM2.out, (g3.own O5.out (fun k hk e => row_apart O5.out B5.out (by decide) k hk e)).mono G4.out.size, fun x hx => (E5.out x hx).keep g3 (fun k hk e => by have := HR0.out k hk; omega), by rw [HPS.out, hM.out, List.take_of_length_le (by rw [HPL.out]; omega)], g3.over G5.out (fun k hk => by omega)⟩
      · have e20 : ((j : Int) == 20) = false := by simp; omega
        have hjk : j < k4 := by have := HK4.out; omega
        have uw : IntKind.u32.wrap (j : Int) = (j : Int) := by rw [IntKind.wrap_u32]; omega
        have uw2 : IntKind.u32.wrap ((j : Int) + 1) = ((j : Int) + 1) := by rw [IntKind.wrap_u32]; omega
        have c0 := cell_of_row wa _ 0 _ _ (0, 0) BX.out
        have b0 := frozen_of_row wa _ 0 _ _ BX.out
        go_upto_region 9 with fail
        have st := heap_setCell_same wa wr.heap.size 0 _ _ (.int .u32 ((j : Int) + 1)) BX.out
        have gs := GrowS.setCell (T := fun k => k = wr.heap.size) wa (p := ⟨wr.heap.size, 0, none⟩) rfl (.int .u32 ((j : Int) + 1))
        have BX2 := Lib.hid (show (wa.setCell ⟨wr.heap.size, 0, none⟩ (.int .u32 ((j : Int) + 1))).heap[wr.heap.size]? = some (.cells #[.int .u32 ((j : Int) + 1), .int .u64 x.rev, .int .u64 x.turn, .slice A7 k c7] 31 (0, 0)) by simpa using st)
        have GB := Lib.hid (gs.over GA.out (fun k hk => by omega))
        generalize wa.setCell ⟨wr.heap.size, 0, none⟩ (.int .u32 ((j : Int) + 1)) = wb at *
        clear st gs c0 b0 uw uw2
        have z0 : wb.cell? ⟨wr.heap.size, 0, none⟩ = some (.int .u32 ((j : Int) + 1)) := cell_of_row wb _ 0 _ _ (0, 0) BX2.out
        have z1 : wb.cell? ⟨wr.heap.size, 1, none⟩ = some (.int .u64 x.rev) := cell_of_row wb _ 1 _ _ (0, 0) BX2.out
        have z2 : wb.cell? ⟨wr.heap.size, 2, none⟩ = some (.int .u64 x.turn) := cell_of_row wb _ 2 _ _ (0, 0) BX2.out
        have z3 : wb.cell? ⟨wr.heap.size, 3, none⟩ = some (.slice A7 k c7) := cell_of_row wb _ 3 _ _ (0, 0) BX2.out
        go_wp2_with (
          at_builtin
          refine wpList_appPt rfl (.tmp 33) (.tmp 35) rfl w4.heap.size _ j l1 rfl (own_grow (own_grow hO.out GB.out) (Grow.alloc _ _)) (some ⟨wb.heap.size, 0, none⟩) 1 1 [((⟨j + 1, x.rev, x.turn, x.bs⟩ : Pt), .slice A7 k c7)] rfl (lies_pt (x := ⟨j + 1, x.rev, x.turn, x.bs⟩) (heap_alloc_new wb (.cells #[.int .u32 ((j : Int) + 1), .int .u64 x.rev, .int .u64 x.turn, .slice A7 k c7] 31))) (by intro x hx; simp at hx; subst hx; rfl) (by omega) (by have := GB.out.size; have := GR.out.size; simp; omega) ?_
          intro B2 e2 w5 own5 gr5)
        have gV : GrowS (fun k => (Value.slice B1 j e1).ownBlock = some k) wr w5 := ((GB.out.trans (Grow.alloc _ _)).wide _).trans (gr5.wide (fun _ h => h))
        have gV2 : GrowS (fun k => w4.heap.size ≤ k) w4 w5 := GR.out.trans (gV.mono (fun k hk => (hO.out.lt k hk).1))
        have M5 := Lib.hid (show (l1 ++ [((⟨j + 1, x.rev, x.turn, x.bs⟩ : Pt), Value.slice A7 k c7)]).map (·.1) = ps.take (j + 1) by rw [List.map_append, hM.out, List.take_add_one, HPA.out j x _ HX.out (by omega)]; rfl)
        have O5 := Lib.hid own5
        have S5 := Lib.hid (gV.kept hS.out (fun e => row_apart hO.out hS.out (by decide) _ e rfl))
        have B5 := Lib.hid (gV.kept hB.out (fun e => row_apart hO.out hB.out (by decide) _ e rfl))
        have E5 := Lib.hid (show ∀ y ∈ l1 ++ [((⟨j + 1, x.rev, x.turn, x.bs⟩ : Pt), Value.slice A7 k c7)], BytesAt w5 R0 y.2 y.1.bs from fun y hy => by
          clear M5
          have hR : ∀ q, R0 q → ¬ (Value.slice B1 j e1).ownBlock = some q := fun q hq e => by have := (hO.out.lt q e).1; have := HR0.out q hq; have := G4.out.size; omega
          rcases List.mem_append.1 hy with hy | hy
          · exact (hE.out y hy).keep gV hR
          · simp at hy; subst hy; exact H7.out.keep gV hR)
        have GV2 := Lib.hid gV2
        clear own5 gr5 gV gV2 z0 z1 z2 z3
        go_wp2
        go_roundw
        case rel => exact ⟨j + 1, B2, e2, _, by omega, by go_num, rfl, O5, E5, M5, S5, B5, GV2.out⟩
        case measure => simp [intOf]; omega
    · obtain rfl : j = n4 := by omega
      have hjk : k4 = j := by omega
      obtain ⟨wa, rfl⟩ : ∃ wa, wa = wr := ⟨_, rfl⟩
      have SA := hS; have BA := hB; have OA := hO; have EA := hE; have GWA := GW
      go_upto_region 11 with fail
      have a2 := cell_of_row wa _ 2 _ _ (0, 0) SA.out
      have b2 := frozen_of_row wa _ 2 _ _ SA.out
      have st := heap_setCell_same wa w.heap.size 2 _ _ (.slice B1 j e1) SA.out
      have gs := GrowS.setCell (T := fun k => k = w.heap.size) wa (p := ⟨w.heap.size, 2, none⟩) rfl (.slice B1 j e1)
      have S5 := Lib.hid (show (wa.setCell ⟨w.heap.size, 2, none⟩ (.slice B1 j e1)).heap[w.heap.size]? = some (.cells #[.int .u64 q, .slice A mm c, .slice B1 j e1] 26 (0, 0)) by simpa using st)
      have B5 := Lib.hid (gs.kept BA.out (by omega))
      have O5 := Lib.hid (gs.own OA.out (fun k hk e => row_apart OA.out SA.out (by decide) k hk e))
      have E5 := Lib.hid (show ∀ x ∈ l1, BytesAt (wa.setCell ⟨w.heap.size, 2, none⟩ (.slice B1 j e1)) R0 x.2 x.1.bs from fun x hx => (EA.out x hx).keep gs (fun k hk e => by have := HR0.out k hk; omega))
      have G5 := Lib.hid (gs.over GWA.out (fun k hk => by omega))
      clear st gs
      go_upto_region 12 with fail
      generalize wa.setCell ⟨w.heap.size, 2, none⟩ (.slice B1 j e1) = wb at *
      clear a2 b2
      have d0 : wb.cell? ⟨w.heap.size, 0, none⟩ = some (.int .u64 q) := cell_of_row wb _ 0 _ _ (0, 0) S5.out
      have d1 : wb.cell? ⟨w.heap.size, 1, none⟩ = some (.slice A mm c) := cell_of_row wb _ 1 _ _ (0, 0) S5.out
      have d2 : wb.cell? ⟨w.heap.size, 2, none⟩ = some (.slice B1 j e1) := cell_of_row wb _ 2 _ _ (0, 0) S5.out
      go_wp2_with (
        refine wpList_store_row rfl _ _ _ rfl (w.heap.size + 1) #[.int .u64 q, .slice A mm c, .slice B1 j e1] rfl rfl _ _ B5.out (by kernel_rfl) rfl (by simp [Value.oneCell']) ?_)
      have hrw := setRow_heap wb (w.heap.size + 1) _ #[.int .u64 q, .slice A mm c, .slice B1 j e1] _ _ B5.out
      have g3 := GrowS.setRow (T := fun i => i = w.heap.size + 1) wb rfl #[.int .u64 q, .slice A mm c, .slice B1 j e1]
      go_wp2
      refine bodyPost_ret (v := .agg #[.int .u64 q, .slice A mm c, .slice B1 j e1]) (results_cell_row rfl _ _ (w.heap.size + 1) _ _ _ _ rfl hrw Try.underlying26 rfl (by kernel_rfl)) rfl ⟨q, mm, B1, j, e1, l1, rfl, HQ.out, HM2.out, (g3.own O5.out (fun k hk e => row_apart O5.out B5.out (by decide) k hk e)).mono G4.out.size, fun x hx => (E5.out x hx).keep g3 (fun k hk e => by have := HR0.out k hk; omega), by rw [HPS.out, hM.out, List.take_of_length_le (by rw [HPL.out]; omega)], g3.over G5.out (fun k hk => by omega)⟩
end Go.Proofs.Ytlnokohmmhmoaaa

