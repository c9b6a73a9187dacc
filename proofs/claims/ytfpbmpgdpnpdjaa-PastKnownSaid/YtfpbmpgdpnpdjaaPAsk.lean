/-
  past: the contracts of Length, At where they answer; At where it refuses.
-/
import Derived.Test.YtfpbmpgdpnpdjaaPErrs
namespace Go.Proofs.Ytfpbmpgdpnpdjaa
open Go.RowKit
set_option linter.unusedSimpArgs false

set_option maxRecDepth 100000 in
theorem length1_any {p q d b1 b2 : Nat} {m : Int} {V B : Value} {l : List (O × Value)} {lens : List Int} {S : Nat → Prop} {w : World} (hP : PastAt w S p q V l B lens) (hd : d ≤ l.length) (hm : lens[d]? = some m)
    (h1 : w.heap[b1]? = some (.cells #[.pointer (some ⟨p, 0, none⟩)] 59 (0, 0))) (h2 : w.heap[b2]? = some (.cells #[.int .i64 0] 3 (0, 0))) :
    Calls Try.prog 68 #[.int .i64 d, .pointer (some ⟨b1, 0, none⟩), .pointer (some ⟨b2, 0, none⟩)] w fun e w' => e = .returned (.tuple #[]) ∧ w'.heap[b2]? = some (.cells #[.int .i64 m] 3 (0, 0)) ∧ GrowS (fun k => k = b2) w w' := by
  obtain ⟨g, c, rfl⟩ := hP.formB
  obtain ⟨k, hlk⟩ : ∃ k, l.length = k := ⟨_, rfl⟩
  rw [hlk] at hP hd
  have HB2 := Lib.hid h2
  have x1 := cell_of_row w b1 0 _ _ (0, 0) h1
  have x2 := cell_of_row w b2 0 _ _ (0, 0) h2
  have f2 := frozen_of_row w b2 0 _ _ h2
  have y1 := hP.c2
  have y2 := hP.lenCell hm
  have i0 : (0 : Int) ≤ (d : Int) := by omega
  have i1 : (d : Int) < (k : Int) + 1 := by omega
  clear hP h1 h2 hm
  go_enter Try.func68, Try.ntmps68
  go_wp2
  go_end0
  exact ⟨rfl, by simpa using heap_setCell_same w b2 0 _ _ (.int .i64 m) HB2.out, GrowS.setCell (T := fun i => i = b2) w (p := ⟨b2, 0, none⟩) rfl _⟩
set_option maxRecDepth 100000 in
theorem length_ok {p q d : Nat} {r m : Int} {os : List O} {lens : List Int} {S : Nat → Prop} {w : World} (hP : PastIs w S p q os lens) (hk : os.length ≤ 256) (hq : q ≤ 2305843009213693952) (hd : d ≤ os.length) (hm : lens[d]? = some m) (hr : r = (q : Int) + d) :
    Calls Try.prog 39 #[.pointer (some ⟨p, 0, none⟩), .int .u64 r] w fun e w' => e = .returned (.tuple #[.int .i64 m, .int .i64 0]) ∧ Grow w w' := by
  obtain ⟨V, l, B, hos, hP⟩ := hP
  obtain ⟨A, c, rfl⟩ := hP.formV
  subst hos
  rw [List.length_map] at hk hd
  have HP := Lib.hid hP; have HR := Lib.hid hr; have HM := Lib.hid hm
  clear hP hr hm
  go_enter Try.func39, Try.ntmps39
  go_wp2_with fail
  have g2 : Grow w ((w.alloc (.cells #[.pointer (some ⟨p, 0, none⟩)] 59)).alloc (.cells #[.int .i64 0] 3)) := (Grow.alloc _ _).trans (Grow.alloc _ _)
  have hb1 := heap_alloc2_old w (.cells #[.pointer (some ⟨p, 0, none⟩)] 59) (.cells #[.int .i64 0] 3)
  have hb2 := heap_alloc2_new w (.cells #[.pointer (some ⟨p, 0, none⟩)] 59) (.cells #[.int .i64 0] 3)
  have P2 := HP.out.grow g2
  refine (at_do_length P2.c0 P2.c1 P2.c3 hq (by omega) HR.out hd (.inl rfl) (by omega) (length1_any P2 hd HM.out hb1 (by simpa using hb2))).mono ?_
  rintro e w1 ⟨rfl, hb3, g1⟩
  have G1 := Lib.hid g1; have HB := Lib.hid hb3
  have z1 := cell_of_row w1 (w.heap.size + 1) 0 _ _ (0, 0) hb3
  have z2 := frozen_of_row w1 (w.heap.size + 1) 0 _ _ hb3
  clear g1 hb3 g2 hb1 hb2 P2
  go_wp2
  have hb5 := heap_setCell_same w1 (w.heap.size + 1) 0 _ _ (.int .i64 m) HB.out
  have z3 := cell_of_row _ (w.heap.size + 1) 0 _ _ (0, 0) hb5
  have gs : GrowS (fun i => i = w.heap.size + 1) w1 (w1.setCell ⟨w.heap.size + 1, 0, none⟩ (.int .i64 m)) := GrowS.setCell (T := fun i => i = w.heap.size + 1) w1 (p := ⟨w.heap.size + 1, 0, none⟩) rfl _
  refine bodyPost_ret (v := .tuple #[.int .i64 m, .int .i64 0]) (by rw [results_cell_tmp rfl]; go_simp) rfl ⟨rfl, ?_⟩
  exact (G1.out.trans gs).over ((Grow.alloc w _).trans (Grow.alloc _ _)) (fun k hk => by omega)
theorem results_row_tmp {fn : Func} {p u : Tmp} {ty : TypeId} (h : fn.results = #[.cell p ty, .tmp u]) (tmps : Array Value) {P : Program} (w : World) (g : Nat) (cs : Array Value)
    (hp : tmps.getD p undef = .pointer (some ⟨g, 0, none⟩)) (hl : (loadVar ty ⟨g, 0, none⟩).run P w = .ok (.agg cs) w) :
    (results fn tmps).run P w = .ok (.tuple #[.agg cs, tmps.getD u undef]) w := by
  rw [results_cell_tmp h, hp]
  simp [asAddr, hl]
set_option maxRecDepth 100000 in
theorem at1_any {p q j b1 b2 : Nat} {o : O} {V B : Value} {l : List (O × Value)} {lens : List Int} {S : Nat → Prop} {w : World} (hP : PastAt w S p q V l B lens) (hk : l.length ≤ 256) (hd : j < l.length) (ho : (l.map (·.1))[j]? = some o) (hu : o.us.length * 40 ≤ 140737488355328)
    (h1 : w.heap[b1]? = some (.cells #[.pointer (some ⟨p, 0, none⟩)] 59 (0, 0))) (h2 : w.heap[b2]? = some (.cells #[.int .u32 0, .int .u64 0, .slice none 0 0, .bool false] 67 (0, 0))) :
    Calls Try.prog 70 #[.int .i64 ((j + 1 : Nat) : Int), .pointer (some ⟨b1, 0, none⟩), .pointer (some ⟨b2, 0, none⟩)] w fun e w' => e = .returned (.tuple #[]) ∧ ∃ A' c', w'.heap[b2]? = some (.cells #[.int .u32 o.cl, .int .u64 o.rq, .slice A' o.us.length c', .bool o.un] 67 (0, 0)) ∧ w'.ownsRow w.heap.size 30 5 (.slice A' o.us.length c') o.us.length (uns o.us) ∧ GrowS (fun k => k = b2) w w' := by
  obtain ⟨g, c, rfl⟩ := own_pos hP.own.row (by omega)
  obtain ⟨k, hlk⟩ : ∃ k, l.length = k := ⟨_, rfl⟩
  rw [hlk] at hP hk hd
  have HB2 := Lib.hid h2
  have x1 := cell_of_row w b1 0 _ _ (0, 0) h1
  have y1 := hP.c1
  obtain ⟨⟨o2, v⟩, hx⟩ : ∃ u, l[j]? = some u := ⟨_, List.getElem?_eq_getElem (by omega)⟩
  obtain rfl : o2 = o := by rw [List.getElem?_map, hx] at ho; simpa using ho
  obtain ⟨z0, z1, z2, z3⟩ := hP.own.lie.cells hx w (Grow.refl _)
  obtain ⟨A', c', hv, hL2⟩ := own_form (hP.own.each (o2, v) (List.mem_of_getElem? hx))
  simp only at hv hL2
  subst hv
  obtain ⟨m, hm⟩ : ∃ m, o2.us.length = m := ⟨_, rfl⟩
  rw [hm] at hL2 z2 hu ⊢
  have HL2 := Lib.hid hL2
  have i0 : (0 : Int) ≤ (j : Int) := by omega
  have i1 : (j : Int) < (k : Int) := by omega
  clear hP h1 h2 ho hx hm hL2
  rw [Nat.zero_add] at z0 z1 z2 z3
  go_enter Try.func70, Try.ntmps70
  go_wp2_with fail
  refine (pown_any HL2.out hu).mono ?_
  rintro e w1 ⟨A2, c2, rfl, own1, g1⟩
  have O1 := Lib.hid own1; have G1 := Lib.hid g1
  have hb := row_grow HB2.out g1
  have HB := Lib.hid hb
  clear own1 g1 hb x1 y1 z0 z1 z2 z3
  go_wp2_with (refine wpList_store_row rfl _ _ _ rfl b2 #[.int .u32 o2.cl, .int .u64 o2.rq, .slice A2 m c2, .bool o2.un] rfl rfl _ _ HB.out (by kernel_rfl) rfl (by simp [Value.oneCell']) ?_)
  go_end0
  have gs := GrowS.setRow (T := fun i => i = b2) w1 rfl #[.int .u32 o2.cl, .int .u64 o2.rq, .slice A2 m c2, .bool o2.un]
  exact ⟨rfl, A2, c2, setRow_heap w1 b2 _ _ _ _ HB.out, gs.own O1.out (fun i hi e => by subst e; have := (O1.out.lt _ hi).1; have := (Array.getElem?_eq_some_iff.1 HB2.out).1; omega), (G1.out.wide _).trans gs⟩
set_option maxRecDepth 100000 in
theorem patc_ok {p q j : Nat} {r : Int} {o : O} {os : List O} {lens : List Int} {S : Nat → Prop} {w : World} (hP : PastIs w S p q os lens) (hk : os.length ≤ 256) (hq : q ≤ 2305843009213693952) (hd : j < os.length) (ho : os[j]? = some o) (hu : o.us.length * 40 ≤ 140737488355328) (hr : r = (q : Int) + ((j + 1 : Nat) : Int)) :
    Calls Try.prog 44 #[.pointer (some ⟨p, 0, none⟩), .int .u64 r] w fun e w' => ∃ A' c', e = .returned (.tuple #[.agg #[.int .u32 o.cl, .int .u64 o.rq, .slice A' o.us.length c', .bool o.un], .int .i64 0]) ∧ w'.ownsRow w.heap.size 30 5 (.slice A' o.us.length c') o.us.length (uns o.us) ∧ Grow w w' := by
  obtain ⟨V, l, B, hos, hP⟩ := hP
  obtain ⟨A, c, rfl⟩ := hP.formV
  subst hos
  rw [List.length_map] at hk hd
  have HP := Lib.hid hP; have HR := Lib.hid hr; have HO := Lib.hid ho
  clear hP hr ho
  go_enter Try.func44, Try.ntmps44
  go_wp2_with fail
  have g2 : Grow w ((w.alloc (.cells #[.pointer (some ⟨p, 0, none⟩)] 59)).alloc (.cells #[.int .u32 0, .int .u64 0, .slice none 0 0, .bool false] 67)) := (Grow.alloc _ _).trans (Grow.alloc _ _)
  have hb1 := heap_alloc2_old w (.cells #[.pointer (some ⟨p, 0, none⟩)] 59) (.cells #[.int .u32 0, .int .u64 0, .slice none 0 0, .bool false] 67)
  have hb2 := heap_alloc2_new w (.cells #[.pointer (some ⟨p, 0, none⟩)] 59) (.cells #[.int .u32 0, .int .u64 0, .slice none 0 0, .bool false] 67)
  have P2 := HP.out.grow g2
  refine (at_do_at P2.c0 P2.c1 P2.c3 hq (by omega) HR.out (by omega) (.inr rfl) (by omega) (at1_any P2 hk hd HO.out hu hb1 (by simpa using hb2))).mono ?_
  rintro e w1 ⟨rfl, A', c', hb3, own1, g1⟩
  have O1 := Lib.hid own1; have G1 := Lib.hid g1; have HB := Lib.hid hb3
  clear own1 g1 hb3 g2 hb1 hb2 P2
  have x0 := cell_of_row w1 (w.heap.size + 1) 0 _ _ (0, 0) HB.out
  have x1 := cell_of_row w1 (w.heap.size + 1) 1 _ _ (0, 0) HB.out
  have x2 := cell_of_row w1 (w.heap.size + 1) 2 _ _ (0, 0) HB.out
  have x3 := cell_of_row w1 (w.heap.size + 1) 3 _ _ (0, 0) HB.out
  go_wp2_with (refine wpList_store_row rfl _ _ _ rfl (w.heap.size + 1) #[.int .u32 o.cl, .int .u64 o.rq, .slice A' o.us.length c', .bool o.un] rfl rfl _ _ HB.out (by kernel_rfl) rfl (by simp [Value.oneCell']) ?_)
  have hrw := setRow_heap w1 (w.heap.size + 1) _ #[.int .u32 o.cl, .int .u64 o.rq, .slice A' o.us.length c', .bool o.un] _ _ HB.out
  have gs := GrowS.setRow (T := fun i => i = w.heap.size + 1) w1 rfl #[.int .u32 o.cl, .int .u64 o.rq, .slice A' o.us.length c', .bool o.un]
  refine bodyPost_ret (v := .tuple #[.agg #[.int .u32 o.cl, .int .u64 o.rq, .slice A' o.us.length c', .bool o.un], .int .i64 0]) (results_row_tmp (p := 4) (u := 5) (ty := 67) rfl _ _ (w.heap.size + 1) _ rfl (run_loadVar_row _ _ _ _ _ _ _ hrw Try.underlying67 rfl (by kernel_rfl))) rfl ⟨A', c', rfl, ?_, ?_⟩
  · refine (gs.own O1.out fun g hg => ?_).mono (by simp; omega)
    have := (O1.out.lt g hg).1
    simp at this
    omega
  · exact (G1.out.trans gs).over ((Grow.alloc w _).trans (Grow.alloc _ _)) (fun k hk => by omega)
set_option maxRecDepth 100000 in
theorem patc_err {pa : Option Addr} {r k : Int} {w : World} (h : Refuses w pa r 1 k) :
    Calls Try.prog 44 #[.pointer pa, .int .u64 r] w fun e w' => e = .returned (.tuple #[.agg #[.int .u32 0, .int .u64 0, .slice none 0 0, .bool false], .int .i64 k]) ∧ Grow w w' := by
  have HH := Lib.hid h
  clear h
  go_enter Try.func44, Try.ntmps44
  go_wp2_with fail
  refine (HH.out _ _ ((Grow.alloc _ _).trans (Grow.alloc _ _))).mono ?_
  rintro e w1 ⟨rfl, rfl⟩
  have hb := heap_alloc2_new w (.cells #[.pointer pa] 59) (.cells #[.int .u32 0, .int .u64 0, .slice none 0 0, .bool false] 67)
  obtain ⟨W, hW⟩ : ∃ W, (w.alloc (.cells #[.pointer pa] 59)).alloc (.cells #[.int .u32 0, .int .u64 0, .slice none 0 0, .bool false] 67) = W := ⟨_, rfl⟩
  have gW : Grow w W := hW ▸ (Grow.alloc w _).trans (Grow.alloc _ _)
  rw [hW] at hb ⊢
  have HB := Lib.hid hb
  clear hb hW
  have x0 := cell_of_row W (w.heap.size + 1) 0 _ _ (0, 0) HB.out
  have x1 := cell_of_row W (w.heap.size + 1) 1 _ _ (0, 0) HB.out
  have x2 := cell_of_row W (w.heap.size + 1) 2 _ _ (0, 0) HB.out
  have x3 := cell_of_row W (w.heap.size + 1) 3 _ _ (0, 0) HB.out
  go_wp2_with (refine wpList_store_row rfl _ _ _ rfl (w.heap.size + 1) #[.int .u32 0, .int .u64 0, .slice none 0 0, .bool false] rfl rfl _ _ HB.out (by kernel_rfl) rfl (by simp [Value.oneCell']) ?_)
  have hrw := setRow_heap W (w.heap.size + 1) _ #[.int .u32 0, .int .u64 0, .slice none 0 0, .bool false] _ _ HB.out
  have gs := GrowS.setRow (T := fun i => i = w.heap.size + 1) W rfl #[.int .u32 0, .int .u64 0, .slice none 0 0, .bool false]
  refine bodyPost_ret (v := .tuple #[.agg #[.int .u32 0, .int .u64 0, .slice none 0 0, .bool false], .int .i64 k]) (results_row_tmp (p := 4) (u := 5) (ty := 67) rfl _ _ (w.heap.size + 1) _ rfl (run_loadVar_row _ _ _ _ _ _ _ hrw Try.underlying67 rfl (by kernel_rfl))) rfl ⟨rfl, ?_⟩
  exact gs.over gW (fun k hk => by omega)
end Go.Proofs.Ytfpbmpgdpnpdjaa

