/-
  edit: the contracts of Clone, Own; of DeleteFunc on a row of the call's own; of Clean.
-/
import Derived.Test.YtfpbmpgdpnpdjaaGrows
import Derived.Lib.SliceRun
import Derived.BigFrame
namespace Go.Proofs.Ytfpbmpgdpnpdjaa
open Go.RowKit
set_option linter.unusedSimpArgs false

theorem own_emptyU (w : World) {base g : Nat} (hb : base ≤ w.heap.size) (hg : g = w.heap.size) : (w.alloc (.cells #[] 30)).ownsRow base 30 5 (.slice (some ⟨g, 0, none⟩) 0 0) 0 (uns []) := by
  subst hg
  exact World.ownsRow_made w #[] 0 hb (by simp [maxLen]) rfl
set_option maxRecDepth 100000 in
theorem clone_any {A : Option Addr} {n c : Nat} {us : List U} {w : World} (hL : Lies w 5 A n c (uns us)) (hn : n * 40 ≤ 140737488355328) :
    Calls Try.prog 56 #[.slice A n c] w fun e w' => ∃ A' c', e = .returned (.slice A' n c') ∧ w'.ownsRow w.heap.size 30 5 (.slice A' n c') n (uns us) ∧ Grow w w' := by
  have hln := hL.uns_len
  have q : ∀ (w : World) (a : Option Addr) (n c n' c' : Nat), (binOp .eql 22 (.slice a n c) (.slice none n' c')).run Try.prog w = .ok (.bool a.isNone) w := fun w a n c n' c' => Lib.run_eql_slice_nil w _ _ a n c n' c' Try.underlying22
  rcases A with _ | ad
  · obtain rfl := hL.none_ rfl
    obtain rfl := hL.nilc rfl
    obtain rfl : us = [] := List.eq_nil_of_length_eq_zero hln
    clear hL
    go_enter Try.func56, Try.ntmps56
    go_wp2
    go_ret
    exact ⟨none, 0, rfl, own_nilU _ _, Grow.refl _⟩
  · have HL := Lib.hid hL
    clear hL hln
    go_enter Try.func56, Try.ntmps56
    go_wp2_with (at_builtin; refine wpList_appU rfl (.tmp 5) (.tmp 6) rfl w.heap.size _ 0 [] rfl (own_emptyU w (Nat.le_refl _) rfl) (some ad) n c us rfl (HL.out.alloc _) (by omega) (by simp) ?_; intro A2 c2 w2 own2 L2 bel2)
    go_ret
    simp only [Nat.zero_add, List.nil_append] at own2 L2
    exact ⟨A2, c2, by simp, own2, bel2 _ _ ((Below.refl _ _).alloc (Nat.le_refl _) _) (Nat.le_refl _)⟩
theorem own_any {A : Option Addr} {n c : Nat} {us : List U} {w : World} (hL : Lies w 5 A n c (uns us)) (hn : n * 40 ≤ 140737488355328) :
    Calls Try.prog 29 #[.slice A n c] w fun e w' => ∃ A' c', e = .returned (.slice A' n c') ∧ w'.ownsRow w.heap.size 30 5 (.slice A' n c') n (uns us) ∧ Grow w w' := by
  have HL := Lib.hid hL
  clear hL
  go_enter Try.func29, Try.ntmps29
  go_wp2_with fail
  refine (clone_any HL.out hn).mono ?_
  rintro e w1 ⟨A', c', rfl, own1, g1⟩
  have O1 := Lib.hid own1; have G1 := Lib.hid g1
  clear own1 g1
  go_wp2
  go_ret
  exact ⟨A', c', rfl, O1.out, G1.out⟩

/-- A unit that is not Nop. -/
def notNop (u : U) : Bool := !decide (u.k = 0)
theorem clean1_any {u : U} {w : World} : Calls Try.prog 57 #[.agg #[.int .i64 u.k, .int .i64 u.p, .int .i32 u.c, .int .u32 u.cl, .int .u64 u.rq]] w fun e w' => e = .returned (.bool (!notNop u)) ∧ Grow w w' := by
  obtain ⟨k, p, c, cl, rq⟩ := u
  simp only [notNop, Bool.not_not]
  by_cases h : k = 0
  · subst h
    go_enter Try.func57, Try.ntmps57
    go_wp2
    go_ret
    exact ⟨rfl, Grow.alloc _ _⟩
  · have e0 : (k == 0) = false := by simp [h]
    have e1 : decide (k = 0) = false := by simp [h]
    rw [e1]
    go_enter Try.func57, Try.ntmps57
    go_wp2
    go_ret
    exact ⟨rfl, Grow.alloc _ _⟩
set_option maxRecDepth 100000 in
/-- The place of the first Nop, or -1. -/
theorem indexU_any {A : Option Addr} {n c : Nat} {us : List U} {w : World} (hL : Lies w 5 A n c (uns us)) :
    Calls Try.prog 73 #[.slice A n c, .func (.func 57) #[] #[]] w fun e w' => ∃ r : Int, e = .returned (.int .i64 r) ∧ Grow w w' ∧ ((r = -1 ∧ us.filter notNop = us) ∨ ∃ i : Nat, r = i ∧ i < n ∧ (us.take i).filter notNop = us.take i ∧ ∃ u, us[i]? = some u ∧ notNop u = false) := by
  have hle := hL.le
  have hbig := hL.big
  have hln := hL.uns_len
  have HL := Lib.hid hL; have HLN := Lib.hid hln
  clear hL hln
  go_enter Try.func73, Try.ntmps73
  go_wp2
  go_loopw [8] (fun i wr => ∃ j : Nat, j ≤ n ∧ i = .int .i64 j ∧ Hid ((us.take j).filter notNop = us.take j) ∧ Grow w wr) (fun i _ => n - (intOf i).toNat)
  case atStart => exact ⟨0, Nat.zero_le _, rfl, by simp [Hid], Grow.refl _⟩
  case round =>
    obtain ⟨j, hj, rfl, hok, hg⟩ := hrel
    by_cases hlt : j < n
    · obtain ⟨u, hu⟩ : ∃ u, us[j]? = some u := ⟨_, List.getElem?_eq_getElem (by have := HLN.out; omega)⟩
      obtain ⟨b, off, rfl, hbs, hcell⟩ := HL.out.pos (by omega) (by decide)
      obtain ⟨x0, x1, x2, x3, x4⟩ := HL.out.unit_cells hu wr hg
      have HU := Lib.hid hu; have G1 := Lib.hid hg
      clear hu hcell hg
      go_wp2_with fail
      refine (clean1_any (u := u)).mono ?_
      obtain ⟨r, hr⟩ : ∃ r, notNop u = r := ⟨_, rfl⟩
      rw [hr]
      have HR := Lib.hid hr
      clear hr
      rintro e w1 ⟨rfl, g1⟩
      have G2 := Lib.hid (G1.out.trans g1)
      clear g1 x0 x1 x2 x3 x4
      cases r with
      | true =>
        have hok2 : Hid ((us.take (j + 1)).filter notNop = us.take (j + 1)) := by
          show _ = _
          rw [List.take_add_one, HU.out, Option.toList_some, List.filter_append, hok.out]
          simp [HR.out]
        go_wp2
        go_roundw
        case rel => exact ⟨j + 1, by omega, by go_num, hok2, G2.out⟩
        case measure => simp [intOf]; omega
      | false =>
        go_wp2
        go_ret
        exact ⟨(j : Int), rfl, G2.out, .inr ⟨j, rfl, hlt, hok.out, u, HU.out, HR.out⟩⟩
    · obtain rfl : j = n := by omega
      have hall : us.filter notNop = us := by
        have := hok.out
        rwa [List.take_of_length_le (by have := HLN.out; omega)] at this
      have HA := Lib.hid hall; have G1 := Lib.hid hg
      clear hall hg
      go_wp2
      go_ret
      exact ⟨-1, rfl, G1.out, .inl ⟨rfl, HA.out⟩⟩

/-- Cells in the place of others. -/
def setL (xs : List Value) (o : Nat) : List Value → List Value
  | [] => xs
  | v :: r => setL (xs.set o v) (o + 1) r
theorem setL_mid : ∀ (q vs p r : List Value), q.length = vs.length → setL (p ++ q ++ r) p.length vs = p ++ vs ++ r
  | [], [], p, r, _ => by simp [setL]
  | x :: q, v :: vs, p, r, h => by
    have e : (p ++ (x :: q) ++ r).set p.length v = (p ++ [v]) ++ q ++ r := by simp
    rw [setL, e, show p.length + 1 = (p ++ [v]).length by simp, setL_mid q vs (p ++ [v]) r (by simpa using h)]
    simp
theorem own_setCells {base g n cap : Nat} {e : TypeId} {sz : Nat} : ∀ (vs xs : List Value) (o : Nat) (w : World), w.ownsRow base e sz (.slice (some ⟨g, 0, none⟩) n cap) n xs → (w.setCells g o vs).ownsRow base e sz (.slice (some ⟨g, 0, none⟩) n cap) n (setL xs o vs) ∧ w.grownBy (w.setCells g o vs) (some g)
  | [], _, _, w, h => ⟨h, World.grownBy.refl w _⟩
  | v :: vs, xs, o, w, h => by
    obtain ⟨h1, h2⟩ := h.stored o v
    obtain ⟨h3, h4⟩ := own_setCells vs _ (o + 1) _ h1
    refine ⟨h3, ?_⟩
    exact ⟨h4.os.trans h2.os, h4.tape.trans h2.tape, h4.output.trans h2.output, Nat.le_trans h2.size h4.size, fun k hk hne => (h4.block k (Nat.lt_of_lt_of_le hk h2.size) hne).trans (h2.block k hk hne)⟩
theorem own_there {w : World} {base g n cap : Nat} {e : TypeId} {sz : Nat} {xs : List Value} (h : w.ownsRow base e sz (.slice (some ⟨g, 0, none⟩) n cap) n xs) (o m : Nat) (hm : o + m ≤ n * sz) : w.there g o m := by
  intro j hj
  refine ⟨?_, h.frozenAt _⟩
  rw [h.cellAt _ (by omega)]
  have := h.1
  simp; omega
theorem own_short {w : World} {base g n cap : Nat} {e : TypeId} {sz : Nat} {xs : List Value} (h : w.ownsRow base e sz (.slice (some ⟨g, 0, none⟩) n cap) n xs) (i : Nat) (hi : i ≤ n) : w.ownsRow base e sz (.slice (some ⟨g, 0, none⟩) i cap) i (xs.take (i * sz)) := by
  have hx := h.1
  have hm : i * sz ≤ n * sz := Nat.mul_le_mul_right _ hi
  rcases h.2 with ⟨h2, _⟩ | ⟨g', cap', cur, h2, hb, hg, hnc, hcm, hcs, ht⟩
  · cases h2
  · injection h2 with h3 _ h4
    injection h3 with h3
    injection h3 with h3
    subst h3 h4
    refine ⟨by simp; omega, .inr ⟨g, cap, cur, rfl, hb, hg, by omega, hcm, hcs, ?_⟩⟩
    rw [← ht, List.take_take, Nat.min_eq_left hm]
theorem uns_split (us : List U) (i : Nat) (u : U) (h : us[i]? = some u) : uns us = uns (us.take i) ++ ucell u ++ uns (us.drop (i + 1)) := by
  have hi := (List.getElem?_eq_some_iff.1 h).1
  have e : us = us.take i ++ (u :: us.drop (i + 1)) := by
    rw [← (List.getElem?_eq_some_iff.1 h).2, ← List.drop_eq_getElem_cons hi, List.take_append_drop]
  conv => lhs; rw [e]
  rw [uns_app, uns_cons, List.append_assoc]
theorem setL_unit (us : List U) (i : Nat) (u : U) (hi : i < us.length) : setL (uns us) (i * 5) (ucell u) = uns (us.set i u) := by
  obtain ⟨x, hx⟩ : ∃ x, us[i]? = some x := ⟨_, List.getElem?_eq_getElem hi⟩
  rw [uns_split us i x hx, show i * 5 = (uns (us.take i)).length by rw [uns_len, List.length_take]; congr 1; omega, setL_mid (ucell x) (ucell u) _ _ rfl]
  have h2 : (us.set i u)[i]? = some u := by rw [List.getElem?_set_self hi]
  rw [uns_split _ i u h2, List.take_set_of_le (Nat.le_refl _), List.drop_set_of_lt (by omega)]
theorem setL_take (o : Nat) : ∀ (vs xs : List Value) (o2 : Nat), o ≤ o2 → (setL xs o2 vs).take o = xs.take o
  | [], _, _, _ => rfl
  | v :: vs, xs, o2, h => by
    rw [setL, setL_take o vs _ (o2 + 1) (by omega), List.take_set_of_le h]
theorem uns_take (us : List U) (i : Nat) (hi : i ≤ us.length) : (uns us).take (i * 5) = uns (us.take i) := by
  have e : uns us = uns (us.take i) ++ uns (us.drop i) := by rw [← uns_app, List.take_append_drop]
  rw [e, List.take_left' (by rw [uns_len, List.length_take]; congr 1; omega)]
theorem zeroU (w : World) : (zeroValue 30).run Try.prog w = .ok (.agg #[.int .i64 0, .int .i64 0, .int .i32 0, .int .u32 0, .int .u64 0]) w := by kernel_rfl
theorem run_clearU {w : World} {base g n cap i : Nat} {ty : TypeId} {xs : List Value} (h : w.ownsRow base 30 5 (.slice (some ⟨g, 0, none⟩) n cap) n xs) (hi : i < n) :
    ∃ vs, (Builtin.clear_ #[22] ty #[.slice (some ⟨g, i * 5, none⟩) (n - i) (cap - i)]).run Try.prog w = .ok (.tuple #[]) (w.setCells g (i * 5) vs) := by
  obtain ⟨vs, hvs⟩ : ∃ vs, vs = (Builtin.zeroCells (Value.agg #[.int .i64 0, .int .i64 0, .int .i32 0, .int .u32 0, .int .u64 0]).cells (n - i)).toList := ⟨_, rfl⟩
  have hl : vs.length = (n - i) * 5 := by rw [hvs, Array.length_toList, size_zeroCells]; rfl
  have hone : ∀ v ∈ vs, v.oneCell' = true := by
    intro v hv
    rw [hvs] at hv
    simp only [Builtin.zeroCells, Array.toList_map, List.mem_map] at hv
    obtain ⟨j, -, rfl⟩ := hv
    have hj := Nat.mod_lt j (show 0 < 5 by decide)
    show ((Value.agg #[.int .i64 0, .int .i64 0, .int .i32 0, .int .u32 0, .int .u64 0]).cells)[j % 5]!.oneCell' = true
    generalize j % 5 = q at hj
    match q, hj with
    | 0, _ => rfl
    | 1, _ => rfl
    | 2, _ => rfl
    | 3, _ => rfl
    | 4, _ => rfl
  have hst := run_storeCells_cells (P := Try.prog) g (i * 5) vs 0 w (fun j hj => (own_there h (i * 5) ((n - i) * 5) (by omega) j (by omega)).1) (fun j hj => (own_there h (i * 5) ((n - i) * 5) (by omega) j (by omega)).2) hone
  simp only [Nat.add_zero] at hst
  obtain ⟨m, hm⟩ : ∃ m, n - i = m + 1 := ⟨n - i - 1, by omega⟩
  rw [hm] at hvs
  refine ⟨vs, ?_⟩
  rw [hm]
  simp [Builtin.clear_, run_underlying Try.underlying22, zeroU, ← hvs, hst]
theorem five {k n : Nat} (h : k < n) : k * 5 + 5 ≤ n * 5 := by omega
theorem size_unit : (Try.prog.info? 30).map (·.size) = some 5 := by kernel_rfl
theorem wpList_storeU {w : World} {ops : Array Oper} {rest : List Oper} {op : Oper} {a : Act} {Q : Exit → Act → World → Prop} (hgd : op.guard = none) (x y : Operand) (ho : op.op = .store 30 x y)
    (b o : Nat) (u : U) (w4 : World) (hw4 : w.setCells b o (ucell u) = w4) (hx : a.eval x = .pointer (some ⟨b, o, none⟩)) (hy : a.eval y = .agg #[.int .i64 u.k, .int .i64 u.p, .int .i32 u.c, .int .u32 u.cl, .int .u64 u.rq]) (ht : w.there b o 5)
    (h : wpList Try.prog ops Q rest (a.put op.dst undef) w4) : wpList Try.prog ops Q (op :: rest) a w := by
  subst hw4
  exact wpList_store_mid hgd _ x y ho b o _ hx hy ht size_unit (unit_oc _ _ _ _ _) h
theorem grown_grow {w w' : World} {base : Nat} {row : Option Nat} (h : w.grownBy w' row) (hr : ∀ g, row = some g → base ≤ g) {B : Nat} {w0 : World} (hb : Below B w0 w) (hB : B ≤ base) (hs : B ≤ w.heap.size) : Below B w0 w' := hb.grown h hs fun k hk => by have := hr k hk; omega
theorem filter_step {us : List U} {j : Nat} {u : U} (h : us[j]? = some u) : (us.take (j + 1)).filter notNop = (us.take j).filter notNop ++ (if notNop u then [u] else []) := by
  rw [List.take_add_one, h, Option.toList_some, List.filter_append]
  by_cases hn : notNop u = true <;> simp [hn]

set_option maxRecDepth 100000 in
set_option maxHeartbeats 2000000 in
set_option linter.unusedVariables false in
theorem delete_any {A : Option Addr} {n c base : Nat} {us : List U} {w : World} (hO : w.ownsRow base 30 5 (.slice A n c) n (uns us)) (hbs : base ≤ w.heap.size) :
    Calls Try.prog 55 #[.slice A n c, .func (.func 57) #[] #[]] w fun e w' => ∃ m, e = .returned (.slice A m c) ∧ w'.ownsRow base 30 5 (.slice A m c) m (uns (us.filter notNop)) ∧ Below base w w' := by
  have hL := Lies.of_own hO
  have hle := hL.le
  have hbig := hL.big
  have hln := hL.uns_len
  have HO := Lib.hid hO; have HL := Lib.hid hL; have HLN := Lib.hid hln
  clear hO hL hln
  go_enter Try.func55, Try.ntmps55
  go_wp2_with fail
  refine (indexU_any HL.out).mono ?_
  rintro e w1 ⟨r, rfl, g1, h⟩
  rcases h with ⟨rfl, hall⟩ | ⟨i, rfl, hi, hpre, u, hu, hnu⟩
  · have O1 := Lib.hid (own_grow HO.out g1); have G1 := Lib.hid g1; have HA := Lib.hid hall
    clear g1 hall
    go_wp2
    go_ret
    exact ⟨n, rfl, by rw [HA.out]; exact O1.out, Below.mono G1.out hbs⟩
  · obtain ⟨b, c', hv⟩ := own_pos HO.out (by omega)
    injection hv with hA _ hc
    subst hA hc
    have hi1 : ((i : Int) == -1) = false := by simp
    have hw1 : wrap64 ((i : Int) + 1) = (i : Int) + 1 := wrap_in (by omega) (by omega)
    have hpre2 : (us.take (i + 1)).filter notNop = us.take i := by rw [filter_step hu, hpre, hnu]; simp
    have O1 := Lib.hid (own_grow HO.out g1); have G1 := Lib.hid (Below.mono g1 hbs); have S1 := Lib.hid (Nat.le_trans hbs g1.size)
    have HP := Lib.hid hpre2
    clear g1 hpre hu hnu hpre2
    go_wp2
    clear hw1 hi1
    go_loopw [5, 6] (fun s t wr => ∃ (k j : Nat) (vs : List U), k < j ∧ j ≤ n ∧ t = .int .i64 j ∧ s = .int .i64 k ∧ vs.length = n ∧ Hid (vs.take k = (us.take j).filter notNop) ∧ Hid (vs.drop j = us.drop j) ∧ wr.ownsRow base 30 5 (.slice (some ⟨b, 0, none⟩) n c) n (uns vs) ∧ Below base w wr ∧ base ≤ wr.heap.size) (fun _ t _ => n - (intOf t).toNat)
    case atStart =>
      exact ⟨i, i + 1, us, by omega, by omega, by first | rfl | go_num, rfl, HLN.out, HP.out.symm, rfl, O1.out, G1.out, S1.out⟩
    case round =>
      obtain ⟨k, j, vs, hkj, hj, rfl, rfl, hvl, htk, hdr, own, hb, hs⟩ := hrel
      have O2 := Lib.hid own; have B2 := Lib.hid hb
      by_cases hlt : j < n
      · have hkn : k < n := by omega
        obtain ⟨u, hu⟩ : ∃ u, us[j]? = some u := ⟨_, List.getElem?_eq_getElem (by have := HLN.out; omega)⟩
        have huv : vs[j]? = some u := by
          have h1 := congrArg (fun l : List U => l[0]?) hdr.out
          simp only [List.getElem?_drop, Nat.add_zero] at h1
          rw [h1, hu]
        obtain ⟨x0, x1, x2, x3, x4⟩ := (Lies.of_own own).unit_cells huv wr (Grow.refl _)
        rw [Nat.zero_add] at x0 x1 x2 x3 x4
        have HU := Lib.hid hu; have HUV := Lib.hid huv
        clear hu huv own hb
        go_wp2_with fail
        refine (clean1_any (u := u)).mono ?_
        obtain ⟨r, hr⟩ : ∃ r, notNop u = r := ⟨_, rfl⟩
        rw [hr]
        have HR := Lib.hid hr
        clear hr
        rintro e w2 ⟨rfl, g2⟩
        have ga := (Grow.alloc wr (.cells #[.int .i64 u.k, .int .i64 u.p, .int .i32 u.c, .int .u32 u.cl, .int .u64 u.rq] 30)).trans g2
        have O3 := Lib.hid (own_grow O2.out ga); have B3 := Lib.hid (B2.out.trans (Below.mono ga hs)); have S3 := Lib.hid (Nat.le_trans hs ga.size)
        have hu3 := row_grow (heap_alloc_new wr _) g2
        have HU3 := Lib.hid hu3
        clear ga g2 hu3 x0 x1 x2 x3 x4
        cases r with
        | true =>
          have q0 := cell_of_row w2 wr.heap.size 0 _ _ (0, 0) HU3.out
          have q1 := cell_of_row w2 wr.heap.size 1 _ _ (0, 0) HU3.out
          have q2 := cell_of_row w2 wr.heap.size 2 _ _ (0, 0) HU3.out
          have q3 := cell_of_row w2 wr.heap.size 3 _ _ (0, 0) HU3.out
          have q4 := cell_of_row w2 wr.heap.size 4 _ _ (0, 0) HU3.out
          have i1 : (k : Int) < (n : Int) := by omega
          have i0 : (0 : Int) ≤ (k : Int) := by omega
          have ht := own_there O3.out (k * 5) 5 (five hkn)
          have HT := Lib.hid ht
          clear ht
          have hvk : k < vs.length := hvl ▸ hkn
          have hst := own_setCells (ucell u) (uns vs) (k * 5) w2 O3.out
          rw [setL_unit vs k u hvk] at hst
          obtain ⟨w4, hw4⟩ : ∃ w4, w2.setCells b (k * 5) (ucell u) = w4 := ⟨_, rfl⟩
          rw [hw4] at hst
          obtain ⟨own4, g4⟩ := hst
          have hbb := (O3.out.lt b rfl).1
          have B4 := Lib.hid (grown_grow (base := base) g4 (fun g hg => by injection hg with hg; exact hg ▸ hbb) B3.out (Nat.le_refl _) S3.out)
          have S4 := Lib.hid (Nat.le_trans S3.out g4.size)
          have O4 := Lib.hid own4; have HW4 := Lib.hid hw4
          have htk4 : Hid ((vs.set k u).take (k + 1) = (us.take (j + 1)).filter notNop) := by
            show _ = _
            rw [filter_step HU.out, if_pos HR.out, ← htk.out, List.take_add_one, List.getElem?_set_self hvk, Option.toList_some, List.take_set_of_le (Nat.le_refl _)]
          have hdr4 : Hid ((vs.set k u).drop (j + 1) = us.drop (j + 1)) := by
            show _ = _
            rw [List.drop_set_of_lt (show k < j + 1 from Nat.lt_succ_of_lt hkj), ← List.drop_drop, hdr.out, List.drop_drop]
          clear own4 g4 hbb hw4
          go_upto_region 10 with (refine wpList_storeU rfl (.tmp 33) (.tmp 32) rfl b (k * 5) u w4 HW4.out rfl rfl HT.out ?_)
          clear q0 q1 q2 q3 q4
          have r1 : k + 1 < j + 1 := Nat.succ_lt_succ hkj
          have r2 : j + 1 ≤ n := hlt
          have r3 : (vs.set k u).length = n := by rw [List.length_set]; exact hvl
          have s4 := S4.out
          go_wp2
          go_roundw
          case rel => exact ⟨k + 1, j + 1, vs.set k u, r1, r2, rfl, rfl, r3, htk4, hdr4, O4.out, B4.out, s4⟩
          case measure => simp [intOf]; omega
        | false =>
          have htk4 : Hid (vs.take k = (us.take (j + 1)).filter notNop) := by
            show _ = _
            rw [filter_step HU.out, if_neg (by rw [HR.out]; decide), List.append_nil]; exact htk.out
          have hdr4 : Hid (vs.drop (j + 1) = us.drop (j + 1)) := by
            show _ = _
            rw [← List.drop_drop, hdr.out, List.drop_drop]
          go_wp2
          go_roundw
          case rel => exact ⟨k, j + 1, vs, by omega, by omega, by go_num, rfl, hvl, htk4, hdr4, O3.out, B3.out, S3.out⟩
          case measure => simp [intOf]; omega
      · obtain rfl : j = n := by omega
        have hfin : vs.take k = us.filter notNop := by rw [htk.out, List.take_of_length_le (by have := HLN.out; omega)]
        obtain ⟨zs, hcl⟩ : ∃ zs, ∀ ty, (Builtin.clear_ #[22] ty #[.slice (some ⟨b, k * 5, none⟩) (j - k) (c - k)]).run Try.prog wr = .ok (.tuple #[]) (wr.setCells b (k * 5) zs) := by
          obtain ⟨zs, h⟩ := run_clearU (ty := 0) O2.out (show k < j by omega)
          exact ⟨zs, fun ty => h⟩
        obtain ⟨own4, g4⟩ := own_setCells zs (uns vs) (k * 5) wr O2.out
        obtain ⟨w4, hw4⟩ : ∃ w4, wr.setCells b (k * 5) zs = w4 := ⟨_, rfl⟩
        rw [hw4] at own4 g4 hcl
        have own5 := own_short own4 k (by omega)
        rw [setL_take _ _ _ _ (Nat.le_refl _), uns_take vs k (by omega), hfin] at own5
        have hbb := (O2.out.lt b rfl).1
        have B4 := Lib.hid (grown_grow (base := base) g4 (fun g hg => by injection hg with hg; exact hg ▸ hbb) B2.out (Nat.le_refl _) hs)
        have O5 := Lib.hid own5
        have j1 : (0 : Int) ≤ (k : Int) := by omega
        have j2 : (k : Int) ≤ (j : Int) := by omega
        have j3 : ¬ j - k = 0 := by omega
        clear own4 own5 g4 hbb own hb hfin hw4
        go_wp2_with (simp only [hcl])
        go_ret
        exact ⟨k, rfl, O5.out, B4.out⟩
set_option maxRecDepth 100000 in
theorem clean_any {A : Option Addr} {n c : Nat} {us : List U} {w : World} (hL : Lies w 5 A n c (uns us)) (hn : n * 40 ≤ 140737488355328) :
    Calls Try.prog 26 #[.slice A n c] w fun e w' => ∃ A' m c', e = .returned (.slice A' m c') ∧ w'.ownsRow w.heap.size 30 5 (.slice A' m c') m (uns (us.filter notNop)) ∧ Grow w w' := by
  have HL := Lib.hid hL
  clear hL
  go_enter Try.func26, Try.ntmps26
  go_wp2_with fail
  refine (clone_any HL.out hn).mono ?_
  rintro e w1 ⟨A1, c1, rfl, own1, g1⟩
  have O1 := Lib.hid own1; have G1 := Lib.hid g1
  clear own1 g1
  go_wp2_with fail
  refine (delete_any O1.out G1.out.size).mono ?_
  rintro e w2 ⟨m, rfl, own2, b2⟩
  have O2 := Lib.hid own2; have G2 := Lib.hid (show Grow w w2 from Below.trans G1.out b2)
  clear own2 b2
  go_wp2
  go_ret
  exact ⟨A1, m, c1, rfl, O2.out, G2.out⟩
end Go.Proofs.Ytfpbmpgdpnpdjaa

