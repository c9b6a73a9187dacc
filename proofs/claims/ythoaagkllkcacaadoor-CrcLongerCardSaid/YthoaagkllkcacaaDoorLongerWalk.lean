/-
  crc: the walk of CrcLonger.
-/
import Derived.Test.YthoaagkllkcacaaDoorCell
import Derived.Deep.DeepCutAuto
namespace Go.Proofs.YthoaagkllkcacaaDoor
open Go.RowKit

theorem beq_dec {a b : Int} {d : Bool} (h : a = b ↔ d = true) : (a == b) = d := by
  rw [Bool.eq_iff_iff, beq_iff_eq]; exact h
set_option maxRecDepth 100000 in
set_option maxHeartbeats 3000000 in
set_option linter.unusedVariables false in
theorem crclonger_any {A B C : Option Addr} {na nb nc ca cb cc : Nat} {la lb lc : List Nat} {w : World} (hT : Tab w) (h1 : Lies w 1 A na ca (byt la)) (h2 : Lies w 1 B nb cb (byt lb)) (h3 : Lies w 1 C nc cc (byt lc))
    (b1 : ∀ x ∈ la, x < 256) (b2 : ∀ x ∈ lb, x < 256) (b3 : ∀ x ∈ lc, x < 256) :
    Calls Tryd.prog 7 #[.slice A na ca, .slice B nb cb, .slice C nc cc] w fun e w' => e = .returned (.bool true) ∧ Below w.heap.size w w' := by
  have l1 := h1.le
  have l2 := h2.le
  have l3 := h3.le
  have g1 := h1.big
  have g2 := h2.big
  have g3 := h3.big
  obtain ⟨n, hn0⟩ : ∃ n, n = min nb (min nc 4) := ⟨_, rfl⟩
  have n2 : n ≤ nb := by omega
  have n3 : n ≤ nc := by omega
  have n4 : n ≤ 4 := by omega
  have hn := Lib.hid hn0
  clear hn0
  obtain ⟨a, ha⟩ : ∃ a, a = lb.take n := ⟨_, rfl⟩
  obtain ⟨b, hb⟩ : ∃ b, b = lc.take n := ⟨_, rfl⟩
  have ba : ∀ x ∈ a, x < 256 := by rw [ha]; exact fun x hx => b2 x (List.mem_of_mem_take hx)
  have bb : ∀ x ∈ b, x < 256 := by rw [hb]; exact fun x hx => b3 x (List.mem_of_mem_take hx)
  have al : a.length = n := by have := h2.bytes_len; rw [ha, List.length_take]; omega
  have bl : b.length = n := by have := h3.bytes_len; rw [hb, List.length_take]; omega
  have La := h2.takeb n n2
  have Lb := h3.takeb n n3
  rw [← ha] at La
  rw [← hb] at Lb
  obtain ⟨F, hF⟩ : ∃ F, F = sum la := ⟨_, rfl⟩
  have Fl : F < 4294967296 := by rw [hF]; exact sum_lt b1
  obtain ⟨d, hd⟩ : ∃ d, d = decide (a = b) := ⟨_, rfl⟩
  obtain ⟨X, hX⟩ : ∃ X : Int, ((more F a : Nat) : Int) = X := ⟨_, rfl⟩
  obtain ⟨Y, hY⟩ : ∃ Y : Int, ((more F b : Nat) : Int) = Y := ⟨_, rfl⟩
  obtain ⟨U, hU⟩ : ∃ U : Int, ((sum a : Nat) : Int) = U := ⟨_, rfl⟩
  obtain ⟨V, hV⟩ : ∃ V : Int, ((sum b : Nat) : Int) = V := ⟨_, rfl⟩
  have hX2 : ((sum (la ++ a) : Nat) : Int) = X := by rw [← hX, hF]; unfold sum; rw [more_app]
  have hY2 : ((sum (la ++ b) : Nat) : Int) = Y := by rw [← hY, hF]; unfold sum; rw [more_app]
  have q1 : (X == Y) = d := by
    refine beq_dec ?_
    rw [← hX, ← hY, hd, decide_eq_true_eq]
    exact ⟨fun h => more_inj Fl (by omega) (by omega) ba bb (by omega), fun h => by rw [h]⟩
  have q2 : (U == V) = d := by
    refine beq_dec ?_
    rw [← hU, ← hV, hd, decide_eq_true_eq]
    exact ⟨fun h => more_inj (s := 0) (by decide) (by omega) (by omega) ba bb (by unfold sum at h; omega), fun h => by rw [h]⟩
  have q3 : ((str a).toList == (str b).toList) = d := by rw [str_eq ba bb, hd]
  have q0 : (X != X) = false := by simp
  have qy : (Y != Y) = false := by simp
  have i0 : (0 : Int) ≤ (n : Int) := by omega
  have i2 : (n : Int) ≤ (cb : Int) := by omega
  have i3 : (n : Int) ≤ (cc : Int) := by omega
  have v1 : ∀ w' : World, Below w.heap.size w w' → (convert 23 9 (.slice B n cb)).run Tryd.prog w' = .ok (.string (str a)) w' := fun w' h => run_convert_lies (P := Tryd.prog) (La.below h (Nat.le_refl _)) 23 5 9 Tryd.underlying23 Tryd.underlying5 Tryd.underlying9
  have v2 : ∀ w' : World, Below w.heap.size w w' → (convert 23 9 (.slice C n cc)).run Tryd.prog w' = .ok (.string (str b)) w' := fun w' h => run_convert_lies (P := Tryd.prog) (Lb.below h (Nat.le_refl _)) 23 5 9 Tryd.underlying23 Tryd.underlying5 Tryd.underlying9
  have HF := Lib.hid hF; have HFl := Lib.hid Fl; have HX := Lib.hid hX; have HY := Lib.hid hY; have HU := Lib.hid hU; have HV := Lib.hid hV; have HX2 := Lib.hid hX2; have HY2 := Lib.hid hY2
  have HB1 := Lib.hid b1; have HBA := Lib.hid ba; have HBB := Lib.hid bb; have KA := Lib.hid La; have KB := Lib.hid Lb; have K1 := Lib.hid h1; have HT := Lib.hid hT
  have V1 := Lib.hid v1; have V2 := Lib.hid v2
  clear hF Fl hX hY hU hV hX2 hY2 b1 b2 b3 ba bb al bl ha hb hd La Lb h1 h2 h3 hT v1 v2
  go_enter Tryd.func7, Tryd.ntmps7
  go_upto_region 1 with fail
  go_cut [7] (fun s7 wx => s7 = .int .i64 n ∧ w = wx)
  case first =>
    all_goals go_wp2_with fail
    all_goals go_meet
    all_goals refine ⟨ret_val ?_, rfl⟩
    all_goals (have := hn.out; omega)
  case rest =>
    obtain ⟨rfl, rfl⟩ := hcut
    go_wp2_with fail
    go_region_held3 (fun _ => True) (trivial) (first | fail)
    go_wp2_with fail
    refine (sum1_cell (w := w) F (by rw [HF.out]) ?_ ?_ HT.out K1.out HB1.out).mono ?_
    · simp [cell_top, cell_under, cell_drew]
    · repeat (first | exact Below.refl _ _ | refine below_drew ?_ | refine below_up ?_)
    rintro e w1 ⟨rfl, rfl⟩
    go_wp2_with fail
    refine (more_below (w := w) X HX.out ?_ HT.out HFl.out KA.out HBA.out).mono ?_
    · repeat (first | exact Below.refl _ _ | refine below_drew ?_ | refine below_up ?_)
    rintro e w1 ⟨rfl, rfl⟩
    go_wp2_with fail
    refine (more_below (w := w) Y HY.out ?_ HT.out HFl.out KB.out HBB.out).mono ?_
    · repeat (first | exact Below.refl _ _ | refine below_drew ?_ | refine below_up ?_)
    rintro e w1 ⟨rfl, rfl⟩
    go_wp2_with fail
    refine (sum2_cell (w := w) X HX2.out ?_ ?_ ?_ HT.out K1.out HB1.out KA.out HBA.out).mono ?_
    · simp [cell_top0, cell_under, cell_drew]
    · simp [cell_top1, cell_under, cell_drew]
    · repeat (first | exact Below.refl _ _ | refine below_drew ?_ | refine below_up ?_)
    rintro e w1 ⟨rfl, rfl⟩
    go_wp2_with fail
    refine (sum2_cell (w := w) Y HY2.out ?_ ?_ ?_ HT.out K1.out HB1.out KB.out HBB.out).mono ?_
    · simp [cell_top0, cell_under, cell_drew]
    · simp [cell_top1, cell_under, cell_drew]
    · repeat (first | exact Below.refl _ _ | refine below_drew ?_ | refine below_up ?_)
    rintro e w1 ⟨rfl, rfl⟩
    have v1 := V1.out; have v2 := V2.out
    go_wp2_with fail
    go_region_held3 (fun w' => Below w.heap.size w w') (repeat (first | assumption | exact Below.refl _ _ | refine below_drew ?_ | refine below_up ?_)) (first
      | (go_at_call 13; refine (sum1_cell (w := w) U HU.out ?_ ?_ HT.out KA.out HBA.out).mono ?_; (focus (simp [cell_top, cell_under, cell_drew]; done)); (focus (repeat (first | exact Below.refl _ _ | refine below_drew ?_ | refine below_up ?_))); rintro e w1 ⟨rfl, rfl⟩)
      | (go_at_call 13; refine (sum1_cell (w := w) V HV.out ?_ ?_ HT.out KB.out HBB.out).mono ?_; (focus (simp [cell_top, cell_under, cell_drew]; done)); (focus (repeat (first | exact Below.refl _ _ | refine below_drew ?_ | refine below_up ?_))); rintro e w1 ⟨rfl, rfl⟩)
      | (go_at_call 16; refine (wakes_below (w := w) HT.out ?_).mono ?_; (focus (repeat (first | exact Below.refl _ _ | refine below_drew ?_ | refine below_up ?_))); rintro e w5 ⟨rfl, hb5⟩))
    all_goals go_wp2
    all_goals go_ret
    all_goals exact ⟨rfl, hb5⟩
end Go.Proofs.YthoaagkllkcacaaDoor
