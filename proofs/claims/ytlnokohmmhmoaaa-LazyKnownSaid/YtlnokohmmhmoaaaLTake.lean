/-
  lazy: the contract of Take, where the document is found, and where not.
-/
import Derived.Test.YtlnokohmmhmoaaaLTake1
namespace Go.Proofs.Ytlnokohmmhmoaaa
open Go.RowKit
set_option linter.unusedSimpArgs false

def badD (d : Dt) (off tot : Int) (n : Nat) : Bool := decide (off ≠ (d.bs.length : Int)) || decide (tot < (d.bs.length : Int) + (n : Int)) || (decide (0 ≤ d.total) && decide (d.total ≠ tot)) || (decide (n = 0) && decide ((d.bs.length : Int) + (n : Int) < tot))
def takeD (d : Dt) (bs : List Nat) (tot : Int) : Dt := { d with bs := d.bs ++ bs, total := tot, all := decide ((d.bs.length : Int) + (bs.length : Int) = tot) }
def takeF (f : F) (i : Nat) (d : Dt) (bs : List Nat) (tot : Int) : F := { f with docs := f.docs.set i (takeD d bs tot), fresh := true, vain := 0 }
def TakePost (T R : Nat → Prop) (p : Nat) (f : F) (i : Nat) (d : Dt) (bs : List Nat) (off tot : Int) (w : World) (e : Ending) (w' : World) : Prop :=
  (badD d off tot bs.length = true ∧ e = .returned (.int .i64 30) ∧ Grow w w') ∨
  (badD d off tot bs.length = false ∧ e = .returned (.int .i64 0) ∧ GrowS T w w' ∧ ∃ R' : Nat → Prop, FIs w' T R' p (takeF f i d bs tot) ∧ ∀ k, R' k → R k ∨ w.heap.size ≤ k)
theorem FAt.redoc {w w' : World} {T R : Nat → Prop} {p b gd n c : Nat} {f : F} {Rv : Value} {l l' : List (Dt × Value)} {ds : List Dt} (h : FAt w T R p f b Rv (.slice (some ⟨gd, 0, none⟩) n c) l) (gs : GrowS (fun k => k = gd) w w')
    (ho : w'.ownsRow 0 73 6 (.slice (some ⟨gd, 0, none⟩) n c) n (l'.flatMap dcell)) (hl : l'.length = n) (he : ∀ x ∈ l', ∃ y ∈ l, x.2 = y.2 ∧ x.1.bs = y.1.bs) (hm : l'.map (·.1) = ds) :
    FAt w' T R p { f with docs := ds } b Rv (.slice (some ⟨gd, 0, none⟩) n c) l' := by
  have hTd : T gd := h.docsT gd rfl
  have hne : ∀ k, R k → ¬ k = gd := fun k hk e => by subst e; exact h.apart k hTd hk
  have hpd : p ≠ gd := fun e => row_apart h.docs h.st (by decide) gd rfl e.symm
  refine ⟨gs.kept h.st hpd, h.hand.keep gs hne (hne _ h.bR), h.bR, h.rest.keep gs hne, by rw [hl]; exact ho, h.docsT, hm, fun x hx => ?_, h.pT, h.apart, fun k hk => Nat.lt_of_lt_of_le (h.ltT k hk) gs.size, fun k hk => Nat.lt_of_lt_of_le (h.ltR k hk) gs.size⟩
  obtain ⟨y, hy, e1, e2⟩ := he x hx
  rw [e1, e2]
  exact (h.each y hy).keep gs hne
set_option maxRecDepth 100000 in
set_option maxHeartbeats 4000000 in
theorem take_go {T R : Nat → Prop} {p doc i : Nat} {f : F} {d : Dt} {off tot : Int} {A B : Option Addr} {n c m e0 : Nat} {bs : List Nat} {w : World} (h : FIs w T R p f) (hfr : 0 ≤ f.frm) (hi : idxI (fun d : Dt => decide (d.doc = doc) && !d.all) f.docs = (i : Int)) (hd : f.docs[i]? = some d)
    (hL : Lies w 1 A n c (byt bs)) (hLT : ∀ a, A = some a → 0 < n → ¬ T a.block) (hn : n ≤ 1000) (hb : d.bs.length ≤ 100000) :
    Calls Try.prog 18 #[.pointer (some ⟨p, 0, none⟩), .agg #[.int .i64 17, .int .u64 0, .int .i64 f.frm, .int .u32 0, .int .u64 0, .int .u64 0, .int .u64 f.op, .int .u64 0, .int .u64 0, .int .u64 0, .int .u64 0, .int .u32 0, .int .u64 0, .slice none 0 0, .int .u32 doc, .int .i64 off, .int .i64 tot, .bool false, .slice A n c, .slice B m e0]] w (TakePost T R p f i d bs off tot w) := by
  obtain ⟨b, Rv, V, l, h⟩ := h
  have hbn : bs.length = n := by have := hL.len; rw [byt_len] at this; omega
  have hbox := heap_alloc_new w (.cells #[.int .i64 17, .int .u64 0, .int .i64 f.frm, .int .u32 0, .int .u64 0, .int .u64 0, .int .u64 f.op, .int .u64 0, .int .u64 0, .int .u64 0, .int .u64 0, .int .u32 0, .int .u64 0, .slice none 0 0, .int .u32 doc, .int .i64 off, .int .i64 tot, .bool false, .slice A n c, .slice B m e0] 42)
  have ga := Grow.alloc w (.cells #[.int .i64 17, .int .u64 0, .int .i64 f.frm, .int .u32 0, .int .u64 0, .int .u64 0, .int .u64 f.op, .int .u64 0, .int .u64 0, .int .u64 0, .int .u64 0, .int .u32 0, .int .u64 0, .slice none 0 0, .int .u32 doc, .int .i64 off, .int .i64 tot, .bool false, .slice A n c, .slice B m e0] 42)
  obtain ⟨w1, hw1⟩ : ∃ w1, w.alloc (.cells #[.int .i64 17, .int .u64 0, .int .i64 f.frm, .int .u32 0, .int .u64 0, .int .u64 0, .int .u64 f.op, .int .u64 0, .int .u64 0, .int .u64 0, .int .u64 0, .int .u32 0, .int .u64 0, .slice none 0 0, .int .u32 doc, .int .i64 off, .int .i64 tot, .bool false, .slice A n c, .slice B m e0] 42) = w1 := ⟨_, rfl⟩
  rw [hw1] at hbox ga
  obtain ⟨v, hlx⟩ : ∃ v, l[i]? = some (d, v) := by
    rw [← h.map, List.getElem?_map] at hd
    cases hq : l[i]? with
    | none => rw [hq] at hd; cases hd
    | some y =>
      rw [hq] at hd
      simp at hd
      exact ⟨y.2, by rw [← hd]⟩
  obtain ⟨A7, k, c7, hv, hL7, -⟩ := (h.each _ (List.mem_of_getElem? hlx)).lies
  simp only at hv hL7
  subst hv
  have hk : d.bs.length = k := by have := hL7.len; rw [byt_len] at this; omega
  obtain ⟨gd, cd, hV⟩ := own_pos h.docs (by have := (List.getElem?_eq_some_iff.1 hlx).1; omega)
  subst hV
  obtain ⟨k2, hk2⟩ : ∃ k2, l.length = k2 := ⟨_, rfl⟩
  rw [hk2] at h
  have hik : i < k2 := by rw [← hk2]; exact (List.getElem?_eq_some_iff.1 hlx).1
  rw [hk] at hb
  have c11 : w1.cell? ⟨p, 11, none⟩ = some (.bool true) := (h.grow ga).c 11
  have H1 := Lib.hid (h.grow ga); have BX := Lib.hid hbox; have GA := Lib.hid ga; have HW1 := Lib.hid hw1; have HLX := Lib.hid hlx; have HL7 := Lib.hid hL7; have HKK := Lib.hid hk; have HK2 := Lib.hid hk2; have HI := Lib.hid hi; have HL := Lib.hid hL; have HLT := Lib.hid hLT; have HBN := Lib.hid hbn; have HP := Lib.hid (h.ltT p h.pT); have HDT := Lib.hid (h.docsT gd rfl); have HTL := Lib.hid h.ltT
  clear h hbox ga hw1 hlx hL7 hk hk2 hi hd hL hLT hbn
  go_enter Try.func18, Try.ntmps18
  go_wp2_with fail
  rw [HW1.out]
  refine (fnone_made c11).mono ?_
  rintro e w2 ⟨rfl, rfl⟩
  go_upto_region 3 with fail
  have y0 : ∀ W, Grow w1 W → W.cell? ⟨w.heap.size, 0, none⟩ = some (.int .i64 17) := fun W g => cell_of_row W _ 0 _ _ (0, 0) (row_grow BX.out g)
  have y2 : ∀ W, Grow w1 W → W.cell? ⟨w.heap.size, 2, none⟩ = some (.int .i64 f.frm) := fun W g => cell_of_row W _ 2 _ _ (0, 0) (row_grow BX.out g)
  have y6 : ∀ W, Grow w1 W → W.cell? ⟨w.heap.size, 6, none⟩ = some (.int .u64 f.op) := fun W g => cell_of_row W _ 6 _ _ (0, 0) (row_grow BX.out g)
  have q3 : ∀ W, Grow w1 W → W.cell? ⟨p, 3, none⟩ = some (.int .i64 f.frm) := fun W g => (H1.out.grow g).c 3
  have q4 : ∀ W, Grow w1 W → W.cell? ⟨p, 4, none⟩ = some (.int .u64 f.op) := fun W g => (H1.out.grow g).c 4
  have e2 : decide (f.frm < 0) = false := by simp; omega
  clear c11
  refine Chain.start Nat (by kernel_rfl) (by kernel_rfl) (fun hg => ?_)
  repeat (first | (refine Chain.skip hg (fun t => by rfl) ?_; simp only [Act.put, List.setIfInBounds_toArray, List.set_cons_zero, List.set_cons_succ]) | (refine Chain.pure hg (X := ?_) (fun t W hw hN => ⟨by rfl, ?_⟩) ?_; rotate_left; (focus (go_simp <;> with_reducible rfl)); simp only [Act.put, List.setIfInBounds_toArray, List.set_cons_zero, List.set_cons_succ]))
  refine Chain.done (fun t W hw hN => ?_)
  have H2 := Lib.hid (H1.out.grow hw); have BX2 := Lib.hid (row_grow BX.out hw); have G2 := Lib.hid (GA.out.trans hw)
  clear hN hg y0 y2 y6 q3 q4 hw e2
  have c6 : W.cell? ⟨p, 6, none⟩ = some (.slice (some ⟨gd, 0, none⟩) k2 cd) := H2.out.c 6
  go_wp2_with fail
  refine (idx_take (doc := doc) (Lies.of_own (by have := H2.out.docs; rw [HK2.out] at this; exact this)) (fun x hx => by obtain ⟨A, n, c, e, -⟩ := (H2.out.each x hx).lies; exact ⟨A, n, c, e⟩) (cell_of_row W _ 14 _ _ (0, 0) BX2.out)).mono ?_
  rw [H2.out.map, HI.out]
  rintro e w3 ⟨rfl, g3⟩
  have H3 := Lib.hid (H2.out.grow g3); have BX3 := Lib.hid (row_grow BX2.out g3); have G3 := Lib.hid (G2.out.trans g3)
  clear g3 c6
  have c6 : w3.cell? ⟨p, 6, none⟩ = some (.slice (some ⟨gd, 0, none⟩) k2 cd) := H3.out.c 6
  have i0 : (0 : Int) ≤ (i : Int) := by omega
  have i1 : (i : Int) < (k2 : Int) := by omega
  have iw : IntKind.i64.wrap ((k : Int) + (n : Int)) = (k : Int) + (n : Int) := by rw [IntWalk.i64_in]; omega
  go_upto_region 9 with fail
  have RL : ∀ W, Grow w3 W → Lies W 6 (some ⟨gd, 0, none⟩) k2 cd (l.flatMap dcell) := fun W g => Lies.of_own (by have := (H3.out.grow g).docs; rw [HK2.out] at this; exact this)
  have x3 := fun (W : World) (g : Grow w3 W) => Lies.flat_cell (j := 3) dcell_len (RL W g) HLX.out rfl
  have x4 := fun (W : World) (g : Grow w3 W) => Lies.flat_cell (j := 4) dcell_len (RL W g) HLX.out rfl
  simp only [Nat.zero_add] at x3 x4
  have y18 : ∀ W, Grow w3 W → W.cell? ⟨w.heap.size, 18, none⟩ = some (.slice A n c) := fun W g => cell_of_row W _ 18 _ _ (0, 0) (row_grow BX3.out g)
  have y15 : ∀ W, Grow w3 W → W.cell? ⟨w.heap.size, 15, none⟩ = some (.int .i64 off) := fun W g => cell_of_row W _ 15 _ _ (0, 0) (row_grow BX3.out g)
  have y16 : ∀ W, Grow w3 W → W.cell? ⟨w.heap.size, 16, none⟩ = some (.int .i64 tot) := fun W g => cell_of_row W _ 16 _ _ (0, 0) (row_grow BX3.out g)
  have X3 := Lib.hid x3; have X4 := Lib.hid x4; have Y18 := Lib.hid y18; have Y15 := Lib.hid y15; have Y16 := Lib.hid y16
  clear RL x4 y15 y16 c6
  refine Chain.start Nat (by kernel_rfl) (by kernel_rfl) (fun hg => ?_)
  repeat (first | (refine Chain.skip hg (fun t => by rfl) ?_; simp only [Act.put, List.setIfInBounds_toArray, List.set_cons_zero, List.set_cons_succ]) | (refine Chain.pure hg (X := ?_) (fun t W hw hN => ⟨by rfl, ?_⟩) ?_; rotate_left; (focus (go_simp <;> with_reducible rfl)); simp only [Act.put, List.setIfInBounds_toArray, List.set_cons_zero, List.set_cons_succ]))
  refine Chain.done (fun t W4 hw hN => ?_)
  have GW4 := Lib.hid hw
  clear hN hg x3 y18 hw
  go_upto_region 10 with fail
  have hkn := Lib.hid (show d.bs.length = k from HKK.out)
  go_cut [106] (fun s W => s = .bool (badD d off tot n) ∧ Grow W4 W)
  case first =>
    have x3 := fun (W : World) (g : Grow W4 W) => X3.out W (GW4.out.trans g)
    have x4 := fun (W : World) (g : Grow W4 W) => X4.out W (GW4.out.trans g)
    have y18 := fun (W : World) (g : Grow W4 W) => Y18.out W (GW4.out.trans g)
    have y15 := fun (W : World) (g : Grow W4 W) => Y15.out W (GW4.out.trans g)
    have y16 := fun (W : World) (g : Grow W4 W) => Y16.out W (GW4.out.trans g)
    have bd : ∀ r, (decide (off ≠ (k : Int)) || decide (tot < (k : Int) + (n : Int)) || (decide (0 ≤ d.total) && decide (d.total ≠ tot)) || (decide (n = 0) && decide ((k : Int) + (n : Int) < tot))) = r → badD d off tot n = r := by intro r h; unfold badD; rw [hkn.out]; exact h
    have BDF := Lib.hid bd
    clear bd
    by_cases a1 : off = (k : Int)
    · have e1 : (off != (k : Int)) = false := by simp [a1]
      by_cases a2 : tot < (k : Int) + (n : Int)
      · have e2 : decide (tot < (k : Int) + (n : Int)) = true := by simpa using a2
        have RS := Lib.hid (BDF.out true (by simp [a1, a2]))
        iterate 6 (first | clear a6 | clear a5 | clear a4 | clear a3 | clear a2 | clear a1 | skip)
        refine Chain.start Nat (by kernel_rfl) (by kernel_rfl) (fun hg => ?_)
        repeat (first | (refine Chain.skip hg (fun t => by rfl) ?_; simp only [Act.put, List.setIfInBounds_toArray, List.set_cons_zero, List.set_cons_succ]) | (refine Chain.pure hg (X := ?_) (fun t W hw hN => ⟨by rfl, ?_⟩) ?_; rotate_left; (focus (go_simp <;> with_reducible rfl)); simp only [Act.put, List.setIfInBounds_toArray, List.set_cons_zero, List.set_cons_succ]))
        refine Chain.done (fun t W hw hN => ?_)
        clear hN hg x3 x4 y18 y15 y16
        go_wp2
        go_meet
        exact ⟨by rw [RS.out], hw⟩
      · have e2 : decide (tot < (k : Int) + (n : Int)) = false := by simpa using a2
        by_cases a3 : 0 ≤ d.total
        · have e3 : decide (d.total ≥ 0) = true := by simpa using a3
          by_cases a4 : d.total = tot
          · have e4 : (d.total != tot) = false := by simp [a4]
            by_cases a5 : n = 0
            · have e5 : ((n : Int) == 0) = true := by simp [a5]
              by_cases a6 : (k : Int) + (n : Int) < tot
              · have e6 : decide ((k : Int) + (n : Int) < tot) = true := by simpa using a6
                have RS := Lib.hid (BDF.out true (by simp [a1, a2, a3, a4, a5]; omega))
                iterate 6 (first | clear a6 | clear a5 | clear a4 | clear a3 | clear a2 | clear a1 | skip)
                refine Chain.start Nat (by kernel_rfl) (by kernel_rfl) (fun hg => ?_)
                repeat (first | (refine Chain.skip hg (fun t => by rfl) ?_; simp only [Act.put, List.setIfInBounds_toArray, List.set_cons_zero, List.set_cons_succ]) | (refine Chain.pure hg (X := ?_) (fun t W hw hN => ⟨by rfl, ?_⟩) ?_; rotate_left; (focus (go_simp <;> with_reducible rfl)); simp only [Act.put, List.setIfInBounds_toArray, List.set_cons_zero, List.set_cons_succ]))
                refine Chain.done (fun t W hw hN => ?_)
                clear hN hg x3 x4 y18 y15 y16
                go_wp2
                go_meet
                exact ⟨by rw [RS.out], hw⟩
              · have e6 : decide ((k : Int) + (n : Int) < tot) = false := by simpa using a6
                have RS := Lib.hid (BDF.out false (by simp [a1, a2, a3, a4, a5]; omega))
                iterate 6 (first | clear a6 | clear a5 | clear a4 | clear a3 | clear a2 | clear a1 | skip)
                refine Chain.start Nat (by kernel_rfl) (by kernel_rfl) (fun hg => ?_)
                repeat (first | (refine Chain.skip hg (fun t => by rfl) ?_; simp only [Act.put, List.setIfInBounds_toArray, List.set_cons_zero, List.set_cons_succ]) | (refine Chain.pure hg (X := ?_) (fun t W hw hN => ⟨by rfl, ?_⟩) ?_; rotate_left; (focus (go_simp <;> with_reducible rfl)); simp only [Act.put, List.setIfInBounds_toArray, List.set_cons_zero, List.set_cons_succ]))
                refine Chain.done (fun t W hw hN => ?_)
                clear hN hg x3 x4 y18 y15 y16
                go_wp2
                go_meet
                exact ⟨by rw [RS.out], hw⟩
            · have e5 : ((n : Int) == 0) = false := by simp; omega
              have RS := Lib.hid (BDF.out false (by simp [a1, a2, a3, a4, a5]; try omega))
              iterate 6 (first | clear a6 | clear a5 | clear a4 | clear a3 | clear a2 | clear a1 | skip)
              refine Chain.start Nat (by kernel_rfl) (by kernel_rfl) (fun hg => ?_)
              repeat (first | (refine Chain.skip hg (fun t => by rfl) ?_; simp only [Act.put, List.setIfInBounds_toArray, List.set_cons_zero, List.set_cons_succ]) | (refine Chain.pure hg (X := ?_) (fun t W hw hN => ⟨by rfl, ?_⟩) ?_; rotate_left; (focus (go_simp <;> with_reducible rfl)); simp only [Act.put, List.setIfInBounds_toArray, List.set_cons_zero, List.set_cons_succ]))
              refine Chain.done (fun t W hw hN => ?_)
              clear hN hg x3 x4 y18 y15 y16
              go_wp2
              go_meet
              exact ⟨by rw [RS.out], hw⟩
          · have e4 : (d.total != tot) = true := by simp [a4]
            have RS := Lib.hid (BDF.out true (by simp [a1, a2, a3, a4]))
            iterate 6 (first | clear a6 | clear a5 | clear a4 | clear a3 | clear a2 | clear a1 | skip)
            refine Chain.start Nat (by kernel_rfl) (by kernel_rfl) (fun hg => ?_)
            repeat (first | (refine Chain.skip hg (fun t => by rfl) ?_; simp only [Act.put, List.setIfInBounds_toArray, List.set_cons_zero, List.set_cons_succ]) | (refine Chain.pure hg (X := ?_) (fun t W hw hN => ⟨by rfl, ?_⟩) ?_; rotate_left; (focus (go_simp <;> with_reducible rfl)); simp only [Act.put, List.setIfInBounds_toArray, List.set_cons_zero, List.set_cons_succ]))
            refine Chain.done (fun t W hw hN => ?_)
            clear hN hg x3 x4 y18 y15 y16
            go_wp2
            go_meet
            exact ⟨by rw [RS.out], hw⟩
        · have e3 : decide (d.total ≥ 0) = false := by simpa using a3
          have a4 : 0 = 0 := rfl
          by_cases a5 : n = 0
          · have e5 : ((n : Int) == 0) = true := by simp [a5]
            by_cases a6 : (k : Int) + (n : Int) < tot
            · have e6 : decide ((k : Int) + (n : Int) < tot) = true := by simpa using a6
              have RS := Lib.hid (BDF.out true (by simp [a1, a2, a3, a4, a5]; omega))
              iterate 6 (first | clear a6 | clear a5 | clear a4 | clear a3 | clear a2 | clear a1 | skip)
              refine Chain.start Nat (by kernel_rfl) (by kernel_rfl) (fun hg => ?_)
              repeat (first | (refine Chain.skip hg (fun t => by rfl) ?_; simp only [Act.put, List.setIfInBounds_toArray, List.set_cons_zero, List.set_cons_succ]) | (refine Chain.pure hg (X := ?_) (fun t W hw hN => ⟨by rfl, ?_⟩) ?_; rotate_left; (focus (go_simp <;> with_reducible rfl)); simp only [Act.put, List.setIfInBounds_toArray, List.set_cons_zero, List.set_cons_succ]))
              refine Chain.done (fun t W hw hN => ?_)
              clear hN hg x3 x4 y18 y15 y16
              go_wp2
              go_meet
              exact ⟨by rw [RS.out], hw⟩
            · have e6 : decide ((k : Int) + (n : Int) < tot) = false := by simpa using a6
              have RS := Lib.hid (BDF.out false (by simp [a1, a2, a3, a4, a5]; omega))
              iterate 6 (first | clear a6 | clear a5 | clear a4 | clear a3 | clear a2 | clear a1 | skip)
              refine Chain.start Nat (by kernel_rfl) (by kernel_rfl) (fun hg => ?_)
              repeat (first | (refine Chain.skip hg (fun t => by rfl) ?_; simp only [Act.put, List.setIfInBounds_toArray, List.set_cons_zero, List.set_cons_succ]) | (refine Chain.pure hg (X := ?_) (fun t W hw hN => ⟨by rfl, ?_⟩) ?_; rotate_left; (focus (go_simp <;> with_reducible rfl)); simp only [Act.put, List.setIfInBounds_toArray, List.set_cons_zero, List.set_cons_succ]))
              refine Chain.done (fun t W hw hN => ?_)
              clear hN hg x3 x4 y18 y15 y16
              go_wp2
              go_meet
              exact ⟨by rw [RS.out], hw⟩
          · have e5 : ((n : Int) == 0) = false := by simp; omega
            have RS := Lib.hid (BDF.out false (by simp [a1, a2, a3, a4, a5]; try omega))
            iterate 6 (first | clear a6 | clear a5 | clear a4 | clear a3 | clear a2 | clear a1 | skip)
            refine Chain.start Nat (by kernel_rfl) (by kernel_rfl) (fun hg => ?_)
            repeat (first | (refine Chain.skip hg (fun t => by rfl) ?_; simp only [Act.put, List.setIfInBounds_toArray, List.set_cons_zero, List.set_cons_succ]) | (refine Chain.pure hg (X := ?_) (fun t W hw hN => ⟨by rfl, ?_⟩) ?_; rotate_left; (focus (go_simp <;> with_reducible rfl)); simp only [Act.put, List.setIfInBounds_toArray, List.set_cons_zero, List.set_cons_succ]))
            refine Chain.done (fun t W hw hN => ?_)
            clear hN hg x3 x4 y18 y15 y16
            go_wp2
            go_meet
            exact ⟨by rw [RS.out], hw⟩
    · have e1 : (off != (k : Int)) = true := by simp [a1]
      have RS := Lib.hid (BDF.out true (by simp [a1]))
      iterate 6 (first | clear a6 | clear a5 | clear a4 | clear a3 | clear a2 | clear a1 | skip)
      refine Chain.start Nat (by kernel_rfl) (by kernel_rfl) (fun hg => ?_)
      repeat (first | (refine Chain.skip hg (fun t => by rfl) ?_; simp only [Act.put, List.setIfInBounds_toArray, List.set_cons_zero, List.set_cons_succ]) | (refine Chain.pure hg (X := ?_) (fun t W hw hN => ⟨by rfl, ?_⟩) ?_; rotate_left; (focus (go_simp <;> with_reducible rfl)); simp only [Act.put, List.setIfInBounds_toArray, List.set_cons_zero, List.set_cons_succ]))
      refine Chain.done (fun t W hw hN => ?_)
      clear hN hg x3 x4 y18 y15 y16
      go_wp2
      go_meet
      exact ⟨by rw [RS.out], hw⟩
  case rest =>
    obtain ⟨rfl, hgc⟩ := hcut
    have GC := Lib.hid (GW4.out.trans hgc)
    have BDN := Lib.hid (show badD d off tot bs.length = badD d off tot n by rw [HBN.out])
    clear hgc
    cases hbd : badD d off tot n with
    | true =>
      have HB := Lib.hid hbd
      clear hbd
      go_wp2
      go_ret
      exact .inl ⟨by rw [BDN.out, HB.out], rfl, G3.out.trans GC.out⟩
    | false =>
      have HB := Lib.hid hbd
      clear hbd
      go_upto_region 12 with fail
      have H5 := Lib.hid (H3.out.grow GC.out)
      have BX5 := Lib.hid (row_grow BX3.out GC.out)
      have G5 := Lib.hid (G3.out.trans GC.out)
      have x3 : ∀ W, GrowS NoRow wc W → W.cell? ⟨gd, i * 6 + 3, none⟩ = some (.slice A7 k c7) := fun W g => X3.out W (GC.out.trans g.no)
      have y18 : ∀ W, GrowS NoRow wc W → W.cell? ⟨w.heap.size, 18, none⟩ = some (.slice A n c) := fun W g => Y18.out W (GC.out.trans g.no)
      have L7 := Lib.hid (HL7.out.below (w' := wc) G5.out (Nat.le_refl _)); have LB := Lib.hid (HL.out.below (w' := wc) G5.out (Nat.le_refl _))
      refine wp_region_any (by kernel_rfl) ?_
      refine wpAny_take (i := 0) (v := ?_) rfl (by kernel_rfl) (by kernel_rfl) (by kernel_rfl) (fun _ _ _ h => h) (Or.inl ⟨by rfl, fun W => ?_⟩) ?_
      rotate_left
      focus (go_simp <;> with_reducible rfl)
      simp only [Act.put, List.getElem_toArray, List.getElem_cons_succ, List.getElem_cons_zero, List.setIfInBounds_toArray, List.set_cons_zero, List.set_cons_succ]
      refine wpAny_take (i := 1) (v := ?_) rfl (by kernel_rfl) (by kernel_rfl) (by kernel_rfl) (fun _ _ _ h => h) (Or.inl ⟨by rfl, fun W => ?_⟩) ?_
      rotate_left
      focus (go_simp <;> with_reducible rfl)
      simp only [Act.put, List.getElem_toArray, List.getElem_cons_succ, List.getElem_cons_zero, List.setIfInBounds_toArray, List.set_cons_zero, List.set_cons_succ]
      refine wpAny_take (i := 2) (v := ?_) rfl (by kernel_rfl) (by kernel_rfl) (by kernel_rfl) (fun _ _ _ h => h) (Or.inl ⟨by rfl, fun W => ?_⟩) ?_
      rotate_left
      focus (go_simp <;> with_reducible rfl)
      simp only [Act.put, List.getElem_toArray, List.getElem_cons_succ, List.getElem_cons_zero, List.setIfInBounds_toArray, List.set_cons_zero, List.set_cons_succ]
      refine wpAny_take (i := 3) (v := ?_) rfl (by kernel_rfl) (by kernel_rfl) (by kernel_rfl) (fun _ _ _ h => h) (Or.inl ⟨by rfl, fun W => ?_⟩) ?_
      rotate_left
      focus (go_simp <;> with_reducible rfl)
      simp only [Act.put, List.getElem_toArray, List.getElem_cons_succ, List.getElem_cons_zero, List.setIfInBounds_toArray, List.set_cons_zero, List.set_cons_succ]
      refine wpAny_take (i := 4) (v := ?_) rfl (by kernel_rfl) (by kernel_rfl) (by kernel_rfl) (fun _ _ _ h => h) (Or.inl ⟨by rfl, fun W => ?_⟩) ?_
      rotate_left
      focus (go_simp <;> with_reducible rfl)
      simp only [Act.put, List.getElem_toArray, List.getElem_cons_succ, List.getElem_cons_zero, List.setIfInBounds_toArray, List.set_cons_zero, List.set_cons_succ]
      refine wpAny_take (i := 7) (v := ?_) rfl (by kernel_rfl) (by kernel_rfl) (by kernel_rfl) (fun _ _ _ h => h) (Or.inl ⟨by rfl, fun W => ?_⟩) ?_
      rotate_left
      focus (go_simp <;> with_reducible rfl)
      simp only [Act.put, List.getElem_toArray, List.getElem_cons_succ, List.getElem_cons_zero, List.setIfInBounds_toArray, List.set_cons_zero, List.set_cons_succ]
      refine WChain.from (Option Addr × Nat) NoRow 159 (by kernel_rfl) (by kernel_rfl) (by kernel_rfl) (by kernel_rfl) (Grow.drew _) (fun hg => ?_)
      repeat (first | (refine WChain.was (by rfl) ?_) | (refine WChain.skip hg (by rfl) (fun t => by rfl) ?_; simp only [Act.put, List.setIfInBounds_toArray, List.set_cons_zero, List.set_cons_succ]) | (refine WChain.pure hg (X := ?_) (by rfl) (fun t W hw hN => ⟨by rfl, ?_⟩) ?_; rotate_left; (focus (go_simp <;> with_reducible rfl)); simp only [Act.put, List.setIfInBounds_toArray, List.set_cons_zero, List.set_cons_succ]))
      refine WChain.grow hg (fun s => .slice s.1 k s.2) (fun s W2 => W2.ownsRow wc.heap.size 5 1 (.slice s.1 k s.2) k (byt d.bs)) (by kernel_rfl) (fun _ _ _ h g => g.own h (fun _ _ hx => hx)) (fun _ => by rfl) (fun t W hw hN K hK => ?_) ?_
      · go_simp
        refine (bclone_any (L7.out.below hw.no (Nat.le_refl _)) (by omega)).mono ?_
        rintro e w9 ⟨A', c', rfl, own9, g9⟩
        exact hK.out (A', c') _ g9 (own9.mono hw.size)
      simp only [Act.put, List.setIfInBounds_toArray, List.set_cons_zero, List.set_cons_succ]
      repeat (first | (refine WChain.was (by rfl) ?_) | (refine WChain.skip hg (by rfl) (fun t => by rfl) ?_; simp only [Act.put, List.setIfInBounds_toArray, List.set_cons_zero, List.set_cons_succ]) | (refine WChain.pure hg (X := ?_) (by rfl) (fun t W hw hN => ⟨by rfl, ?_⟩) ?_; rotate_left; (focus (go_simp <;> with_reducible rfl)); simp only [Act.put, List.setIfInBounds_toArray, List.set_cons_zero, List.set_cons_succ]))
      refine WChain.tail (wtail_of (by kernel_rfl)) rfl (fun t W hw hN => ?_)
      simp only [restE, Nat.reduceAdd, cond_true, cond_false, show Nat.testBit 159 9 = false from rfl, show Nat.testBit 159 10 = false from rfl, show Nat.testBit 159 11 = false from rfl, show Nat.testBit 159 12 = false from rfl, show Nat.testBit 159 13 = false from rfl]
      have h6 := hN.get 6 rfl (by rfl) (by kernel_rfl)
      generalize t 6 = s at *
      obtain ⟨A9, c9⟩ := s
      simp only at h6
      have GW := Lib.hid hw.no; have O6 := Lib.hid h6
      clear hN hg hw h6 x3 y18
      (refine wpList_app8 rfl (.tmp 113) (.tmp 115) rfl wc.heap.size _ k d.bs rfl O6.out A n c bs rfl (LB.out.below GW.out (Nat.le_refl _)) (by omega) GW.out.size ?_; intro A12 c12 w12 own12 L12' bel12; simp only [Act.put, List.setIfInBounds_toArray, List.set_cons_zero, List.set_cons_succ] at own12 ⊢; have O12 := Lib.hid own12; have E12 := Lib.hid (bel12 _ _ GW.out (Nat.le_refl _)); clear own12 L12' bel12)
      have H6 := Lib.hid (H5.out.grow E12.out)
      have s0 := H6.out.docs
      rw [HK2.out] at s0
      have s1 := s0.frozenAt (i * 6 + 3)
      have s2 : w12.cell? ⟨gd, i * 6 + 3, none⟩ = some (.slice A7 k c7) := X3.out w12 (GC.out.trans E12.out)
      clear s0
      go_upto_region 13 with fail
      have hR1 : ∀ q, T q → ¬ (R q ∨ (Value.slice A12 (k + n) c12).ownBlock = some q) := fun q hq hr => hr.elim (H6.out.apart q hq) (fun e => by have := own_lt O12.out q e; have := HTL.out q hq; have := G5.out.size; omega)
      have hR2 : ∀ q, (R q ∨ (Value.slice A12 (k + n) c12).ownBlock = some q) → q < w12.heap.size := fun q hr => hr.elim (H6.out.ltR q) (fun e => (O12.out.lt q e).2)
      have HR3 := Lib.hid (show ∀ q, (R q ∨ (Value.slice A12 (k + n) c12).ownBlock = some q) → R q ∨ w.heap.size ≤ q from fun q hr => hr.imp id (fun e => by have := own_lt O12.out q e; have := G5.out.size; omega))
      have h7 := FAt.setDoc (d' := { d with bs := d.bs ++ bs }) (v' := .slice A12 (k + n) c12) (j := 3) H6.out HLX.out (by decide) rfl (fun q hq => .inl hq) hR1 hR2 (BytesAt.own O12.out (fun g hg => .inr hg))
      have g7 : GrowS T w _ := ((G5.out.trans E12.out).wide T).trans (GrowS.setCell (T := T) w12 (p := ⟨gd, i * 6 + 3, none⟩) HDT.out (.slice A12 (k + n) c12))
      have hgw : w.heap.size ≠ gd := fun e => by have := HTL.out gd HDT.out; omega
      have bx7 := (GrowS.setCell (T := fun q => q = gd) w12 (p := ⟨gd, i * 6 + 3, none⟩) rfl (.slice A12 (k + n) c12)).kept (row_grow BX5.out E12.out) hgw
      generalize w12.setCell ⟨gd, i * 6 + 3, none⟩ (.slice A12 (k + n) c12) = w13 at *
      generalize hR' : (fun q => R q ∨ (Value.slice A12 (k + n) c12).ownBlock = some q) = R' at h7
      have HR4 := Lib.hid (show ∀ q, R' q → R q ∨ w.heap.size ≤ q from fun q hq => HR3.out q (by rw [← hR'] at hq; exact hq))
      have hl7 : (l.set i ({ d with bs := d.bs ++ bs }, .slice A12 (k + n) c12))[i]? = some ({ d with bs := d.bs ++ bs }, .slice A12 (k + n) c12) := by rw [List.getElem?_set]; simp [(List.getElem?_eq_some_iff.1 HLX.out).1]
      have ln7 : (l.set i ({ d with bs := d.bs ++ bs }, .slice A12 (k + n) c12)).length = k2 := by rw [List.length_set]; exact HK2.out
      obtain ⟨l7, hl7e⟩ : ∃ x, l.set i ({ d with bs := d.bs ++ bs }, Value.slice A12 (k + n) c12) = x := ⟨_, rfl⟩
      rw [hl7e] at h7 hl7 ln7
      have own7 : w13.ownsRow 0 73 6 (.slice (some ⟨gd, 0, none⟩) k2 cd) k2 (l7.flatMap dcell) := by have := h7.docs; rw [ln7] at this; exact this
      have H7 := Lib.hid h7; have BX7 := Lib.hid bx7; have G7 := Lib.hid g7; have L7E := Lib.hid hl7; have LN7 := Lib.hid ln7; have HL7E := Lib.hid hl7e; have OWN7 := Lib.hid own7; have HGW := Lib.hid hgw
      clear h7 bx7 g7 hl7 ln7 hl7e own7 hR1 hR2 s1 s2 hR' hgw
      obtain ⟨X, hX⟩ : ∃ X : Nat → Prop, (fun q => q = gd) = X := ⟨_, rfl⟩
      have HX := Lib.hid hX
      have hXg : X gd := by rw [← hX]
      have hXn : ∀ q, q ≠ gd → ¬ X q := fun q hq hx => by rw [← hX] at hx; exact hq hx
      clear hX
      have y16 : ∀ W, GrowS X w13 W → W.cell? ⟨w.heap.size, 16, none⟩ = some (.int .i64 tot) := fun W g => cell_of_row W _ 16 _ _ (0, 0) (g.kept BX7.out (hXn _ HGW.out))
      have HXG := Lib.hid hXg
      clear hXn hXg
      refine wp_region_any (by kernel_rfl) ?_
      refine wpAny_take (i := 0) (v := ?_) rfl (by kernel_rfl) (by kernel_rfl) (by kernel_rfl) (fun _ _ _ h => h) (Or.inl ⟨by rfl, fun W => ?_⟩) ?_
      rotate_left
      focus (go_simp <;> with_reducible rfl)
      simp only [Act.put, List.getElem_toArray, List.getElem_cons_succ, List.getElem_cons_zero, List.setIfInBounds_toArray, List.set_cons_zero, List.set_cons_succ]
      refine wpAny_take (i := 2) (v := ?_) rfl (by kernel_rfl) (by kernel_rfl) (by kernel_rfl) (fun _ _ _ h => h) (Or.inl ⟨by rfl, fun W => ?_⟩) ?_
      rotate_left
      focus (go_simp <;> with_reducible rfl)
      simp only [Act.put, List.getElem_toArray, List.getElem_cons_succ, List.getElem_cons_zero, List.setIfInBounds_toArray, List.set_cons_zero, List.set_cons_succ]
      refine wpAny_take (i := 4) (v := ?_) rfl (by kernel_rfl) (by kernel_rfl) (by kernel_rfl) (fun _ _ _ h => h) (Or.inl ⟨by rfl, fun W => ?_⟩) ?_
      rotate_left
      focus (go_simp <;> with_reducible rfl)
      simp only [Act.put, List.getElem_toArray, List.getElem_cons_succ, List.getElem_cons_zero, List.setIfInBounds_toArray, List.set_cons_zero, List.set_cons_succ]
      refine wpAny_take (i := 5) (v := ?_) rfl (by kernel_rfl) (by kernel_rfl) (by kernel_rfl) (fun _ _ _ h => h) (Or.inl ⟨by rfl, fun W => ?_⟩) ?_
      rotate_left
      focus (go_simp <;> with_reducible rfl)
      simp only [Act.put, List.getElem_toArray, List.getElem_cons_succ, List.getElem_cons_zero, List.setIfInBounds_toArray, List.set_cons_zero, List.set_cons_succ]
      refine WChain.from Nat X 53 (by kernel_rfl) (by kernel_rfl) (by kernel_rfl) (by kernel_rfl) (Grow.drew _) (fun hg => ?_)
      repeat (first | (refine WChain.was (by rfl) ?_) | (refine WChain.skip hg (by rfl) (fun t => by rfl) ?_; simp only [Act.put, List.setIfInBounds_toArray, List.set_cons_zero, List.set_cons_succ]) | (refine WChain.pure hg (X := ?_) (by rfl) (fun t W hw hN => ⟨by rfl, ?_⟩) ?_; rotate_left; (focus (go_simp <;> with_reducible rfl)); simp only [Act.put, List.setIfInBounds_toArray, List.set_cons_zero, List.set_cons_succ]))
      refine WChain.write hg (gd) ((fun W2 => W2.ownsRow 0 73 6 (.slice (some ⟨gd, 0, none⟩) k2 cd) k2 (l7.flatMap dcell))) ((fun _ => undef)) ((fun _ W2 => W2.ownsRow 0 73 6 (.slice (some ⟨gd, 0, none⟩) k2 cd) k2 ((l7.flatMap dcell).set (i * 6 + 4) (.int .i64 tot)))) (by kernel_rfl) HXG.out ?_ OWN7.out (fun w5 w6 h5 h6 => h6.own h5 (fun q hq hx => hx.2 hq.symm)) (fun _ w5 w6 h5 h6 => h6.own h5 (fun q hq hx => hx.2 hq.symm)) (fun _ => by rfl) (fun t W hw hN hp K hK => ?_) ?_
      · repeat (first | exact mem_no | refine mem_snoc ?_ (fun e => by cases e))
      · have a0 : W.cell? ⟨gd, i * 6 + 4, none⟩ = some (.int .i64 d.total) := by have := Lies.flat_cell (j := 4) dcell_len (Lies.of_own hp) L7E.out rfl; simpa using this
        have b0 := hp.frozenAt (i * 6 + 4)
        have st := hp.stored (i * 6 + 4) (.int .i64 tot)
        go_simp
        exact hK.out default _ st.2 st.1
      simp only [Act.put, List.setIfInBounds_toArray, List.set_cons_zero, List.set_cons_succ]
      refine WChain.last (wtail_of (by kernel_rfl)) (by kernel_rfl) (fun t W3 hw hN => ?_)
      have h10 := hN.get 10 rfl (by rfl) (by kernel_rfl)
      try simp only at h10
      have gX : GrowS (fun q => q = gd) w13 W3 := by have := hw; rw [← HX.out] at this; exact this
      rw [flat_set dcell_len l7 i 4 _ ({ d with bs := d.bs ++ bs, total := tot }, .slice A12 (k + n) c12) _ L7E.out (by decide) rfl] at h10
      have hi8 : (l7.set i ({ d with bs := d.bs ++ bs, total := tot }, .slice A12 (k + n) c12))[i]? = some ({ d with bs := d.bs ++ bs, total := tot }, .slice A12 (k + n) c12) := by rw [List.getElem?_set]; simp [(List.getElem?_eq_some_iff.1 L7E.out).1]
      have a1 : W3.cell? ⟨gd, i * 6 + 5, none⟩ = some (.bool d.all) := by have := Lies.flat_cell (j := 5) dcell_len (Lies.of_own h10) hi8 rfl; simpa using this
      have b1 := h10.frozenAt (i * 6 + 5)
      have st := (h10.stored (i * 6 + 5) (.bool ((k : Int) + (n : Int) == tot))).1
      rw [flat_set dcell_len _ i 5 _ ({ d with bs := d.bs ++ bs, total := tot, all := ((k : Int) + (n : Int) == tot) }, .slice A12 (k + n) c12) _ hi8 (by decide) rfl, List.set_set] at st
      have gs := gX.trans (GrowS.setCell (T := fun q => q = gd) W3 (p := ⟨gd, i * 6 + 5, none⟩) rfl (.bool ((k : Int) + (n : Int) == tot)))
      have ed : takeD d bs tot = { d with bs := d.bs ++ bs, total := tot, all := ((k : Int) + (n : Int) == tot) } := by unfold takeD; rw [hkn.out, HBN.out]; rfl
      have H8 := Lib.hid (H7.out.redoc (ds := f.docs.set i (takeD d bs tot)) gs st (by rw [List.length_set]; exact LN7.out) (fun x hx => by
        rcases List.mem_or_eq_of_mem_set hx with hx | rfl
        · exact ⟨x, hx, rfl, rfl⟩
        · exact ⟨_, List.mem_of_getElem? L7E.out, rfl, rfl⟩) (by rw [map_set_doc, ← HL7E.out, map_set_doc, H5.out.map, List.set_set, ed]))
      have G8 := Lib.hid (G7.out.trans (gs.mono (fun q e => e ▸ HDT.out)))
      clear hN hg hw h10 hi8 gX st gs ed y16
      go_upto_region 14 with fail
      generalize W3.setCell ⟨gd, i * 6 + 5, none⟩ (.bool ((k : Int) + (n : Int) == tot)) = w14 at *
      clear a1 b1
      go_wp2_with fail
      refine (news_any H8.out).mono ?_
      rintro e w15 ⟨rfl, h9, g9⟩
      have H9 := Lib.hid h9
      have G9 := Lib.hid (G8.out.trans (g9.mono (fun q e => e ▸ H8.out.pT)))
      clear h9 g9
      go_wp2
      go_ret
      exact .inr ⟨by rw [BDN.out, HB.out], rfl, G9.out, R', ⟨b, Rv, _, _, H9.out⟩, HR4.out⟩
end Go.Proofs.Ytlnokohmmhmoaaa

