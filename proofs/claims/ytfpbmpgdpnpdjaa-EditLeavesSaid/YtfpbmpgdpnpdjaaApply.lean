/-
  edit: the reference's Apply: as a function, its contracts.
-/
import Derived.Test.YtfpbmpgdpnpdjaaRow
import Derived.Test.YtfpbmpgdpnpdjaaChar
import Derived.Test.YtfpbmpgdpnpdjaaOpen
namespace Go.Proofs.Ytfpbmpgdpnpdjaa
open Go.RowKit
set_option linter.unusedSimpArgs false

/-- Does a unit fit a text of n chars? -/
def fitsU (u : U) (n : Nat) : Bool := mayU u && (if u.k = 1 then decide (u.p ≤ n) else if u.k = 2 then decide (u.p < n) else true)
/-- A text behind a unit, up to a place. -/
def outI (u : U) (t : List Int) : Nat → List Int
  | 0 => []
  | i + 1 => outI u t i ++ (if u.k = 1 ∧ (i : Int) = u.p then [u.c] else []) ++ (if u.k = 2 ∧ (i : Int) = u.p then [] else (t[i]?).toList)
def applyU (u : U) (t : List Int) : Option (List Int) := if fitsU u t.length then some (outI u t (t.length + 1)) else none
def applyR : List U → List Int → Option (List Int)
  | [], t => some t
  | u :: r, t => match applyU u t with
    | none => none
    | some s => applyR r s
theorem outI_len (u : U) (t : List Int) : ∀ i, (outI u t i).length ≤ 2 * i
  | 0 => by simp [outI]
  | i + 1 => by
    have := outI_len u t i
    rw [outI, List.length_append, List.length_append]
    have h1 : (if u.k = 1 ∧ (i : Int) = u.p then [u.c] else []).length ≤ 1 := by split <;> simp
    have h2 : (if u.k = 2 ∧ (i : Int) = u.p then [] else (t[i]?).toList).length ≤ 1 := by
      split
      · simp
      · cases t[i]? <;> simp
    omega

theorem r06may_any {u : U} {w : World} : Calls Try.prog 74 #[.agg #[.int .i64 u.k, .int .i64 u.p, .int .i32 u.c, .int .u32 u.cl, .int .u64 u.rq]] w fun e w' => e = .returned (.bool (mayU u)) ∧ Grow w w' := by
  obtain ⟨k, p, c, cl, rq⟩ := u
  simp only [mayU]
  by_cases h0 : k = 0
  · subst h0
    by_cases h1 : p = 0
    · subst h1
      go_enter Try.func74, Try.ntmps74
      go_wp2
      go_ret
      refine ⟨ret_bool ?_, Grow.alloc _ _⟩
      first | rfl | simp
    · have e1 : (p == 0) = false := by simp [h1]
      go_enter Try.func74, Try.ntmps74
      go_wp2
      go_ret
      refine ⟨ret_bool ?_, Grow.alloc _ _⟩
      first | rfl | simp [h1]
  · have e0 : (k == 0) = false := by simp [h0]
    rw [if_neg h0]
    by_cases h3 : k = 1 ∨ k = 2
    · rw [if_pos h3]
      by_cases hp : 0 ≤ p
      · have d1 : decide (p ≥ 0) = true := by simp; omega
        have d2 : decide (0 ≤ p) = true := by simp; omega
        obtain ⟨r, hr⟩ : ∃ r, mayI c = r := ⟨_, rfl⟩
        have HR := Lib.hid hr
        rw [hr, d2]
        clear hr
        rcases h3 with rfl | rfl
        all_goals
          go_enter Try.func74, Try.ntmps74
          go_wp2_with fail
          refine (rmay_at r HR.out).mono ?_
          rintro e w1 ⟨rfl, rfl⟩
          go_wp2
          go_ret
          exact ⟨rfl, Grow.alloc _ _⟩
      · have d1 : decide (p ≥ 0) = false := by simp; omega
        have d2 : decide (0 ≤ p) = false := by simp; omega
        rw [d2]
        rcases h3 with rfl | rfl
        all_goals
          go_enter Try.func74, Try.ntmps74
          go_wp2
          go_ret
          exact ⟨rfl, Grow.alloc _ _⟩
    · rw [if_neg h3]
      have e1 : (k == 1) = false := by simp; omega
      have e2 : (k == 2) = false := by simp; omega
      go_enter Try.func74, Try.ntmps74
      go_wp2
      go_ret
      exact ⟨rfl, Grow.alloc _ _⟩
theorem r06fits_any {u : U} {n : Nat} {w : World} (hm : mayU u = true) : Calls Try.prog 75 #[.agg #[.int .i64 u.k, .int .i64 u.p, .int .i32 u.c, .int .u32 u.cl, .int .u64 u.rq], .int .i64 n] w fun e w' => e = .returned (.bool (fitsU u n)) ∧ Grow w w' := by
  have hk := may_kind hm
  have hf : fitsU u n = (if u.k = 1 then decide (u.p ≤ n) else if u.k = 2 then decide (u.p < n) else true) := by unfold fitsU; rw [hm]; simp
  rw [hf]
  have HM := Lib.hid hm
  clear hf hm
  go_enter Try.func75, Try.ntmps75
  go_wp2_with fail
  refine (r06may_any (u := u)).mono ?_
  rw [HM.out]
  rintro e w1 ⟨rfl, g1⟩
  have G1 := Lib.hid ((Grow.alloc w _).trans g1)
  have hu1 := row_grow (heap_alloc_new w _) g1
  have q0 := cell_of_row w1 w.heap.size 0 _ _ (0, 0) hu1
  have q1 := cell_of_row w1 w.heap.size 1 _ _ (0, 0) hu1
  obtain ⟨k, p, c, cl, rq⟩ := u
  simp only at hk q0 q1 ⊢
  clear g1 hu1 HM
  rcases hk with rfl | rfl | rfl
  · go_wp2
    go_ret
    exact ⟨rfl, G1.out⟩
  · go_wp2
    go_ret
    exact ⟨rfl, G1.out⟩
  · go_wp2
    go_ret
    exact ⟨rfl, G1.out⟩
theorem toGrow3 {w w' : World} (h : Below w.heap.size w w') : Grow w w' := h
def ApplyPost (u : U) (t : List Int) (w : World) (e : Ending) (w' : World) : Prop :=
  ∃ A m c E, e = .returned (.tuple #[.slice A m c, .int .i64 E]) ∧ Grow w w' ∧ ((applyU u t = none ∧ E ≠ 0) ∨ ∃ s, applyU u t = some s ∧ E = 0 ∧ w'.ownsRow w.heap.size 24 1 (.slice A m c) m (chs s))
set_option maxRecDepth 100000 in
set_option maxHeartbeats 4000000 in
set_option linter.unusedVariables false in
theorem r06apply_any {u : U} {A : Option Addr} {n cap : Nat} {t : List Int} {w : World} (hL : Lies w 1 A n cap (chs t)) (hn : n ≤ 1048576) :
    Calls Try.prog 59 #[.agg #[.int .i64 u.k, .int .i64 u.p, .int .i32 u.c, .int .u32 u.cl, .int .u64 u.rq], .slice A n cap] w (ApplyPost u t w) := by
  have hle := hL.le
  have hbig := hL.big
  have hln := hL.chs_len
  have HL := Lib.hid hL; have HLN := Lib.hid hln
  clear hL hln
  by_cases hm : mayU u = true
  · have HM := Lib.hid hm
    have hk := may_kind hm
    clear hm
    go_enter Try.func59, Try.ntmps59
    go_wp2_with fail
    refine (r06may_any (u := u)).mono ?_
    rw [HM.out]
    rintro e w1 ⟨rfl, g1⟩
    have BX : Hid (∀ W, Grow (w.alloc (.cells #[.int .i64 u.k, .int .i64 u.p, .int .i32 u.c, .int .u32 u.cl, .int .u64 u.rq] 30)) W → W.heap[w.heap.size]? = some (.cells #[.int .i64 u.k, .int .i64 u.p, .int .i32 u.c, .int .u32 u.cl, .int .u64 u.rq] 30 (0, 0))) := fun W h => row_grow (heap_alloc_new w _) h
    have S1 := Lib.hid (show w.heap.size + 1 ≤ w1.heap.size by have := g1.size; simpa using this)
    have G1 := Lib.hid ((Grow.alloc w _).trans g1)
    have b0 := cell_of_row w1 w.heap.size 0 _ _ (0, 0) (BX.out w1 g1)
    have b1 := cell_of_row w1 w.heap.size 1 _ _ (0, 0) (BX.out w1 g1)
    have b2 := cell_of_row w1 w.heap.size 2 _ _ (0, 0) (BX.out w1 g1)
    have b3 := cell_of_row w1 w.heap.size 3 _ _ (0, 0) (BX.out w1 g1)
    have b4 := cell_of_row w1 w.heap.size 4 _ _ (0, 0) (BX.out w1 g1)
    have GA1 := Lib.hid g1
    clear g1
    go_wp2_with fail
    refine (r06fits_any (u := u) (n := n) HM.out).mono ?_
    obtain ⟨f, hf⟩ : ∃ f, fitsU u n = f := ⟨_, rfl⟩
    rw [hf]
    rintro e w2 ⟨rfl, g2⟩
    have HF := Lib.hid hf
    have GA2 := Lib.hid (GA1.out.trans g2)
    have S2 := Lib.hid (Nat.le_trans S1.out g2.size)
    have G2 := Lib.hid (G1.out.trans g2)
    clear g2 hf b0 b1 b2 b3 b4
    cases f with
    | false =>
      have hno : applyU u t = none := by unfold applyU; rw [HLN.out, HF.out]; rfl
      have HN := Lib.hid hno
      clear hno
      go_wp2
      go_ret2
      exact ⟨none, 0, 0, 30, rfl, G2.out, .inl ⟨HN.out, by decide⟩⟩
    | true =>
      have hyes : applyU u t = some (outI u t (n + 1)) := by unfold applyU; rw [HLN.out, HF.out]; rfl
      have HY := Lib.hid hyes
      clear hyes
      go_wp2
      go_loopw [6, 7] (fun v i wr => ∃ (j m1 : Nat) (A1 : Option Addr) (c1 : Nat), j ≤ n + 1 ∧ i = .int .i64 j ∧ v = .slice A1 m1 c1 ∧ wr.ownsRow (w.heap.size + 1) 24 1 (.slice A1 m1 c1) m1 (chs (outI u t j)) ∧ Grow (w.alloc (.cells #[.int .i64 u.k, .int .i64 u.p, .int .i32 u.c, .int .u32 u.cl, .int .u64 u.rq] 30)) wr) (fun _ i _ => n + 1 - (intOf i).toNat)
      case atStart => exact ⟨0, 0, none, 0, Nat.zero_le _, rfl, rfl, own_nilC _ _, GA2.out⟩
      case round =>
        obtain ⟨j, m1, A1, c1, hj, rfl, rfl, own1, hg⟩ := hrel
        have hm1 : m1 ≤ 2 * j := by have h1 := (Lies.of_own own1).chs_len; have h2 := outI_len u t j; omega
        have O1 := Lib.hid own1; have G3 := Lib.hid hg; have S3 := Lib.hid (show w.heap.size + 1 ≤ wr.heap.size by have := hg.size; simpa using this)
        have TC : Hid (∀ x, t[j]? = some x → ∀ b off, A = some ⟨b, off, none⟩ → ∀ W, Grow (w.alloc (.cells #[.int .i64 u.k, .int .i64 u.p, .int .i32 u.c, .int .u32 u.cl, .int .u64 u.rq] 30)) W → W.cell? ⟨b, off + j, none⟩ = some (.int .i32 x)) := by
          intro x hx b off hA W g
          subst hA
          have := HL.out.cells _ rfl j (.int .i32 x) (by simp [chs, hx])
          rw [add_none] at this
          exact grow_cell this ((Grow.alloc w _).trans g)
        clear own1 hg
        by_cases hle2 : j ≤ n
        · have b0 := cell_of_row wr w.heap.size 0 _ _ (0, 0) (BX.out wr G3.out)
          have b1 := cell_of_row wr w.heap.size 1 _ _ (0, 0) (BX.out wr G3.out)
          have b2 := cell_of_row wr w.heap.size 2 _ _ (0, 0) (BX.out wr G3.out)
          have hst : outI u t (j + 1) = outI u t j ++ (if u.k = 1 ∧ (j : Int) = u.p then [u.c] else []) ++ (if u.k = 2 ∧ (j : Int) = u.p then [] else (t[j]?).toList) := rfl
          have HST := Lib.hid hst
          have dle : decide ((j : Int) ≤ (n : Int)) = true := by simp; omega
          clear hst
          rcases hk with hk | hk | hk
          · have hjp : True := trivial
            by_cases hlt : j < n
            · obtain ⟨x, hx⟩ : ∃ x, t[j]? = some x := ⟨_, List.getElem?_eq_getElem (by have := HLN.out; omega)⟩
              obtain ⟨b, off, hA, -, -⟩ := HL.out.pos (by omega) (by decide)
              subst hA
              have TX := Lib.hid (TC.out x hx b off rfl)
              have hx0 := TX.out wr G3.out
              have hfin : outI u t (j + 1) = outI u t j ++ [] ++ [x] := by rw [HST.out, hx]; simp [hk, hjp]
              have dlt : decide ((j : Int) < (n : Int)) = true := by simp; omega
              have i0 : (0 : Int) ≤ (j : Int) := by omega
              have i1 : (j : Int) < (n : Int) := by omega
              clear hx
              have HFIN := Lib.hid hfin
              clear hfin
              rw [hk] at b0
              have KW := Lib.hid hk
              clear hk hjp HST
              go_wp2_with (first | (at_builtin; refine wpList_appC rfl (.tmp 51) (.tmp 56) rfl (w.heap.size + 1) _ m1 (outI u t j) rfl (own_grow O1.out (Grow.alloc _ _)) (some ⟨wr.heap.size, 0, none⟩) 1 1 [x] rfl (lies_char x rfl) (by omega) (by have := S3.out; simp; omega) ?_; intro A5 c5 w5 own5 L5 bel5; have O5 := Lib.hid own5; have G6 := Lib.hid (toGrow3 (bel5 _ _ (G3.out.trans (Grow.alloc _ _)) (by simp))); clear own5 L5 bel5))
              have OF := O5.out
              have ef : outI u t (j + 1) = outI u t j ++ [x] := by simp [HFIN.out]
              rw [← ef] at OF
              go_roundw
              case rel => exact ⟨j + 1, _, _, _, by omega, by go_num, rfl, OF, G6.out⟩
              case measure => simp [intOf]; omega
            · have hx : t[j]? = none := List.getElem?_eq_none (by have := HLN.out; omega)
              have hfin : outI u t (j + 1) = outI u t j ++ [] ++ [] := by rw [HST.out, hx]; simp [hk, hjp]
              have dlt : decide ((j : Int) < (n : Int)) = false := by simp; omega
              clear hx
              have HFIN := Lib.hid hfin
              clear hfin
              rw [hk] at b0
              have KW := Lib.hid hk
              clear hk hjp HST
              go_wp2
              have OF := O1.out
              have ef : outI u t (j + 1) = outI u t j := by simp [HFIN.out]
              rw [← ef] at OF
              go_roundw
              case rel => exact ⟨j + 1, _, _, _, by omega, by go_num, rfl, OF, G3.out⟩
              case measure => simp [intOf]; omega
          · by_cases hjp : (j : Int) = u.p
            · by_cases hlt : j < n
              · obtain ⟨x, hx⟩ : ∃ x, t[j]? = some x := ⟨_, List.getElem?_eq_getElem (by have := HLN.out; omega)⟩
                obtain ⟨b, off, hA, -, -⟩ := HL.out.pos (by omega) (by decide)
                subst hA
                have TX := Lib.hid (TC.out x hx b off rfl)
                have hx0 := TX.out wr G3.out
                have hfin : outI u t (j + 1) = outI u t j ++ [u.c] ++ [x] := by rw [HST.out, hx]; simp [hk, hjp]
                have dlt : decide ((j : Int) < (n : Int)) = true := by simp; omega
                have i0 : (0 : Int) ≤ (j : Int) := by omega
                have i1 : (j : Int) < (n : Int) := by omega
                clear hx
                have HFIN := Lib.hid hfin
                clear hfin
                rw [hk] at b0
                rw [← hjp] at b1
                have KW := Lib.hid hk; have JP := Lib.hid hjp
                clear hk hjp HST
                go_wp2_with (first | (at_builtin; refine wpList_appC rfl (.tmp 31) (.tmp 34) rfl (w.heap.size + 1) _ m1 (outI u t j) rfl (own_grow O1.out (Grow.alloc _ _)) (some ⟨wr.heap.size, 0, none⟩) 1 1 [u.c] rfl (lies_char u.c rfl) (by omega) (by have := S3.out; simp; omega) ?_; intro A3 c3 w3 own3 L3 bel3; have O3 := Lib.hid own3; have G4 := Lib.hid (toGrow3 (bel3 _ _ (G3.out.trans (Grow.alloc _ _)) (by simp))); have S4 := Lib.hid (show w.heap.size + 1 ≤ w3.heap.size by have := G4.out.size; simpa using this); have d0 := cell_of_row w3 w.heap.size 0 _ _ (0, 0) (BX.out w3 G4.out); have d1 := cell_of_row w3 w.heap.size 1 _ _ (0, 0) (BX.out w3 G4.out); rw [KW.out] at d0; rw [← JP.out] at d1; have hx1 := TX.out w3 G4.out; clear own3 L3 bel3) | (at_builtin; refine wpList_appC rfl (.tmp 51) (.tmp 56) rfl (w.heap.size + 1) _ (m1 + 1) (outI u t j ++ [u.c]) rfl (own_grow O3.out (Grow.alloc _ _)) (some ⟨w3.heap.size, 0, none⟩) 1 1 [x] rfl (lies_char x rfl) (by omega) (by have := S4.out; simp; omega) ?_; intro A5 c5 w5 own5 L5 bel5; have O5 := Lib.hid own5; have G6 := Lib.hid (toGrow3 (bel5 _ _ (G4.out.trans (Grow.alloc _ _)) (by simp))); clear own5 L5 bel5))
                have OF := O5.out
                have ef : outI u t (j + 1) = outI u t j ++ [u.c] ++ [x] := by simp [HFIN.out]
                rw [← ef] at OF
                go_roundw
                case rel => exact ⟨j + 1, _, _, _, by omega, by go_num, rfl, OF, G6.out⟩
                case measure => simp [intOf]; omega
              · have hx : t[j]? = none := List.getElem?_eq_none (by have := HLN.out; omega)
                have hfin : outI u t (j + 1) = outI u t j ++ [u.c] ++ [] := by rw [HST.out, hx]; simp [hk, hjp]
                have dlt : decide ((j : Int) < (n : Int)) = false := by simp; omega
                clear hx
                have HFIN := Lib.hid hfin
                clear hfin
                rw [hk] at b0
                rw [← hjp] at b1
                have KW := Lib.hid hk; have JP := Lib.hid hjp
                clear hk hjp HST
                go_wp2_with (first | (at_builtin; refine wpList_appC rfl (.tmp 31) (.tmp 34) rfl (w.heap.size + 1) _ m1 (outI u t j) rfl (own_grow O1.out (Grow.alloc _ _)) (some ⟨wr.heap.size, 0, none⟩) 1 1 [u.c] rfl (lies_char u.c rfl) (by omega) (by have := S3.out; simp; omega) ?_; intro A3 c3 w3 own3 L3 bel3; have O3 := Lib.hid own3; have G4 := Lib.hid (toGrow3 (bel3 _ _ (G3.out.trans (Grow.alloc _ _)) (by simp))); have S4 := Lib.hid (show w.heap.size + 1 ≤ w3.heap.size by have := G4.out.size; simpa using this); have d0 := cell_of_row w3 w.heap.size 0 _ _ (0, 0) (BX.out w3 G4.out); have d1 := cell_of_row w3 w.heap.size 1 _ _ (0, 0) (BX.out w3 G4.out); rw [KW.out] at d0; rw [← JP.out] at d1; clear own3 L3 bel3))
                have OF := O3.out
                have ef : outI u t (j + 1) = outI u t j ++ [u.c] := by simp [HFIN.out]
                rw [← ef] at OF
                go_roundw
                case rel => exact ⟨j + 1, _, _, _, by omega, by go_num, rfl, OF, G4.out⟩
                case measure => simp [intOf]; omega
            · by_cases hlt : j < n
              · obtain ⟨x, hx⟩ : ∃ x, t[j]? = some x := ⟨_, List.getElem?_eq_getElem (by have := HLN.out; omega)⟩
                obtain ⟨b, off, hA, -, -⟩ := HL.out.pos (by omega) (by decide)
                subst hA
                have TX := Lib.hid (TC.out x hx b off rfl)
                have hx0 := TX.out wr G3.out
                have hfin : outI u t (j + 1) = outI u t j ++ [] ++ [x] := by rw [HST.out, hx]; simp [hk, hjp]
                have dlt : decide ((j : Int) < (n : Int)) = true := by simp; omega
                have i0 : (0 : Int) ≤ (j : Int) := by omega
                have i1 : (j : Int) < (n : Int) := by omega
                clear hx
                have HFIN := Lib.hid hfin
                clear hfin
                rw [hk] at b0
                have e1 : ((j : Int) == u.p) = false := by simp [hjp]
                have e2 : ((j : Int) != u.p) = true := by simp [hjp]
                have KW := Lib.hid hk
                clear hk hjp HST
                go_wp2_with (first | (at_builtin; refine wpList_appC rfl (.tmp 51) (.tmp 56) rfl (w.heap.size + 1) _ m1 (outI u t j) rfl (own_grow O1.out (Grow.alloc _ _)) (some ⟨wr.heap.size, 0, none⟩) 1 1 [x] rfl (lies_char x rfl) (by omega) (by have := S3.out; simp; omega) ?_; intro A5 c5 w5 own5 L5 bel5; have O5 := Lib.hid own5; have G6 := Lib.hid (toGrow3 (bel5 _ _ (G3.out.trans (Grow.alloc _ _)) (by simp))); clear own5 L5 bel5))
                have OF := O5.out
                have ef : outI u t (j + 1) = outI u t j ++ [x] := by simp [HFIN.out]
                rw [← ef] at OF
                go_roundw
                case rel => exact ⟨j + 1, _, _, _, by omega, by go_num, rfl, OF, G6.out⟩
                case measure => simp [intOf]; omega
              · have hx : t[j]? = none := List.getElem?_eq_none (by have := HLN.out; omega)
                have hfin : outI u t (j + 1) = outI u t j ++ [] ++ [] := by rw [HST.out, hx]; simp [hk, hjp]
                have dlt : decide ((j : Int) < (n : Int)) = false := by simp; omega
                clear hx
                have HFIN := Lib.hid hfin
                clear hfin
                rw [hk] at b0
                have e1 : ((j : Int) == u.p) = false := by simp [hjp]
                have e2 : ((j : Int) != u.p) = true := by simp [hjp]
                have KW := Lib.hid hk
                clear hk hjp HST
                go_wp2
                have OF := O1.out
                have ef : outI u t (j + 1) = outI u t j := by simp [HFIN.out]
                rw [← ef] at OF
                go_roundw
                case rel => exact ⟨j + 1, _, _, _, by omega, by go_num, rfl, OF, G3.out⟩
                case measure => simp [intOf]; omega
          · by_cases hjp : (j : Int) = u.p
            · by_cases hlt : j < n
              · obtain ⟨x, hx⟩ : ∃ x, t[j]? = some x := ⟨_, List.getElem?_eq_getElem (by have := HLN.out; omega)⟩
                obtain ⟨b, off, hA, -, -⟩ := HL.out.pos (by omega) (by decide)
                subst hA
                have TX := Lib.hid (TC.out x hx b off rfl)
                have hx0 := TX.out wr G3.out
                have hfin : outI u t (j + 1) = outI u t j ++ [] ++ [] := by rw [HST.out, hx]; simp [hk, hjp]
                have dlt : decide ((j : Int) < (n : Int)) = true := by simp; omega
                have i0 : (0 : Int) ≤ (j : Int) := by omega
                have i1 : (j : Int) < (n : Int) := by omega
                clear hx
                have HFIN := Lib.hid hfin
                clear hfin
                rw [hk] at b0
                rw [← hjp] at b1
                have KW := Lib.hid hk
                clear hk hjp HST
                go_wp2
                have OF := O1.out
                have ef : outI u t (j + 1) = outI u t j := by simp [HFIN.out]
                rw [← ef] at OF
                go_roundw
                case rel => exact ⟨j + 1, _, _, _, by omega, by go_num, rfl, OF, G3.out⟩
                case measure => simp [intOf]; omega
              · have hx : t[j]? = none := List.getElem?_eq_none (by have := HLN.out; omega)
                have hfin : outI u t (j + 1) = outI u t j ++ [] ++ [] := by rw [HST.out, hx]; simp [hk, hjp]
                have dlt : decide ((j : Int) < (n : Int)) = false := by simp; omega
                clear hx
                have HFIN := Lib.hid hfin
                clear hfin
                rw [hk] at b0
                rw [← hjp] at b1
                have KW := Lib.hid hk
                clear hk hjp HST
                go_wp2
                have OF := O1.out
                have ef : outI u t (j + 1) = outI u t j := by simp [HFIN.out]
                rw [← ef] at OF
                go_roundw
                case rel => exact ⟨j + 1, _, _, _, by omega, by go_num, rfl, OF, G3.out⟩
                case measure => simp [intOf]; omega
            · by_cases hlt : j < n
              · obtain ⟨x, hx⟩ : ∃ x, t[j]? = some x := ⟨_, List.getElem?_eq_getElem (by have := HLN.out; omega)⟩
                obtain ⟨b, off, hA, -, -⟩ := HL.out.pos (by omega) (by decide)
                subst hA
                have TX := Lib.hid (TC.out x hx b off rfl)
                have hx0 := TX.out wr G3.out
                have hfin : outI u t (j + 1) = outI u t j ++ [] ++ [x] := by rw [HST.out, hx]; simp [hk, hjp]
                have dlt : decide ((j : Int) < (n : Int)) = true := by simp; omega
                have i0 : (0 : Int) ≤ (j : Int) := by omega
                have i1 : (j : Int) < (n : Int) := by omega
                clear hx
                have HFIN := Lib.hid hfin
                clear hfin
                rw [hk] at b0
                have e1 : ((j : Int) == u.p) = false := by simp [hjp]
                have e2 : ((j : Int) != u.p) = true := by simp [hjp]
                have KW := Lib.hid hk
                clear hk hjp HST
                go_wp2_with (first | (at_builtin; refine wpList_appC rfl (.tmp 51) (.tmp 56) rfl (w.heap.size + 1) _ m1 (outI u t j) rfl (own_grow O1.out (Grow.alloc _ _)) (some ⟨wr.heap.size, 0, none⟩) 1 1 [x] rfl (lies_char x rfl) (by omega) (by have := S3.out; simp; omega) ?_; intro A5 c5 w5 own5 L5 bel5; have O5 := Lib.hid own5; have G6 := Lib.hid (toGrow3 (bel5 _ _ (G3.out.trans (Grow.alloc _ _)) (by simp))); clear own5 L5 bel5))
                have OF := O5.out
                have ef : outI u t (j + 1) = outI u t j ++ [x] := by simp [HFIN.out]
                rw [← ef] at OF
                go_roundw
                case rel => exact ⟨j + 1, _, _, _, by omega, by go_num, rfl, OF, G6.out⟩
                case measure => simp [intOf]; omega
              · have hx : t[j]? = none := List.getElem?_eq_none (by have := HLN.out; omega)
                have hfin : outI u t (j + 1) = outI u t j ++ [] ++ [] := by rw [HST.out, hx]; simp [hk, hjp]
                have dlt : decide ((j : Int) < (n : Int)) = false := by simp; omega
                clear hx
                have HFIN := Lib.hid hfin
                clear hfin
                rw [hk] at b0
                have e1 : ((j : Int) == u.p) = false := by simp [hjp]
                have e2 : ((j : Int) != u.p) = true := by simp [hjp]
                have KW := Lib.hid hk
                clear hk hjp HST
                go_wp2
                have OF := O1.out
                have ef : outI u t (j + 1) = outI u t j := by simp [HFIN.out]
                rw [← ef] at OF
                go_roundw
                case rel => exact ⟨j + 1, _, _, _, by omega, by go_num, rfl, OF, G3.out⟩
                case measure => simp [intOf]; omega
        · obtain rfl : j = n + 1 := by omega
          have HO := Lib.hid (O1.out.mono (b2 := w.heap.size) (by omega))
          have HG := Lib.hid ((Grow.alloc w _).trans G3.out)
          have dle : decide (((n + 1 : Nat) : Int) ≤ (n : Int)) = false := by simp; omega
          go_wp2
          go_ret2
          exact ⟨A1, m1, c1, 0, rfl, HG.out, .inr ⟨_, HY.out, rfl, HO.out⟩⟩
  · have hf : mayU u = false := by simpa using hm
    have hno : applyU u t = none := by unfold applyU fitsU; rw [hf]; rfl
    have HF := Lib.hid hf; have HN := Lib.hid hno
    clear hf hno hm
    go_enter Try.func59, Try.ntmps59
    go_wp2_with fail
    refine (r06may_any (u := u)).mono ?_
    rw [HF.out]
    rintro e w1 ⟨rfl, g1⟩
    have G1 := Lib.hid ((Grow.alloc w _).trans g1)
    clear g1
    go_wp2
    go_ret2
    exact ⟨none, 0, 0, 1, rfl, G1.out, .inl ⟨HN.out, by decide⟩⟩
end Go.Proofs.Ytfpbmpgdpnpdjaa

