/-
  utf: the contracts of the reference's Whole, Decode.
-/
import Derived.Test.YtbphdojjddnljaaDoorRefFirst
namespace Go.Proofs.YtbphdojjddnljaaDoor
open Go.RowKit
set_option linter.unusedSimpArgs false

set_option maxRecDepth 100000 in
theorem rfirst_nil {A : Option Addr} {cap : Nat} {w : World} : Calls Tryd.prog 25 #[.slice A 0 cap] w (FirstPost [] w) := by
  have q : FirstPost [] w (.returned (.tuple #[.int .i32 0, .int .i64 0])) w := ⟨rfl, Grow.refl _⟩
  have HQ := Lib.hid q
  clear q
  go_enter Tryd.func25, Tryd.ntmps25
  go_wp2
  go_loopw [4] (fun i wr => i = .int .i64 1 ∧ w = wr) (fun i _ => 5 - (intOf i).toNat)
  case atStart => exact ⟨rfl, rfl⟩
  case round =>
    obtain ⟨rfl, rfl⟩ := hrel
    go_wp2
    go_ret2
    exact HQ.out
theorem rfirst_any {A : Option Addr} {n cap : Nat} {l : List Nat} {w : World} (hL : Lies w 1 A n cap (byt l)) (hl : ∀ y ∈ l, y < 256) :
    Calls Tryd.prog 25 #[.slice A n cap] w (FirstPost l w) := by
  match l with
  | [] =>
    have : n = 0 := by have := hL.bytes_len; simpa using this.symm
    subst this
    exact rfirst_nil
  | x :: r =>
    have hn : 0 < n := by have := hL.bytes_len; rw [List.length_cons] at this; omega
    obtain ⟨b, off, rfl, -, -⟩ := hL.pos hn (by decide)
    exact rfirst_some hL hl
/-- How far a reading has come. -/
def Far (l t : List Nat) (k : Nat) : Prop := valid t ∧ k = (encL t).length ∧ l = encL t ++ l.drop k
theorem Far.start (l : List Nat) : Far l [] 0 := ⟨fun c hc => (by cases hc), rfl, by simp [encL]⟩
theorem Far.stop {l t : List Nat} {k : Nat} (h : Far l t k) (hd : dec1 (l.drop k) = none) : readT l = t ∧ readN l = k := by
  obtain ⟨h1, h2, h3⟩ := h
  obtain ⟨e1, e2⟩ := read_unique h1 h3 hd
  exact ⟨e1, by rw [e2, ← h2]⟩
theorem Far.step {l t : List Nat} {k c q : Nat} (h : Far l t k) (hd : dec1 (l.drop k) = some (c, q)) : Far l (t ++ [c]) (k + q) ∧ 1 ≤ q ∧ k + q ≤ l.length := by
  obtain ⟨r1, r2, r3⟩ := h
  obtain ⟨-, hs⟩ := read_step t (l.drop k) r1
  obtain ⟨s1, s2, s3, s, s4⟩ := hs c q hd
  obtain ⟨q1, -, q3⟩ := dec1_len hd
  rw [List.length_drop] at q3
  refine ⟨⟨s1, by rw [s2, List.length_append, ← r2, s3], ?_⟩, q1, by omega⟩
  have e5 : l.drop (k + q) = s := by rw [← List.drop_drop, s4, s3, List.drop_left]
  rw [s2, e5, List.append_assoc, ← s4]
  exact r3
theorem Far.len {l t : List Nat} {k : Nat} (h : Far l t k) : t.length ≤ k := by
  have := (encL_len t).1
  have := h.2.1
  omega
set_option maxRecDepth 100000 in
set_option maxHeartbeats 2000000 in
theorem rwhole_any {A : Option Addr} {n cap : Nat} {l : List Nat} {w : World} (hL : Lies w 1 A n cap (byt l)) (hl : ∀ y ∈ l, y < 256) :
    Calls Tryd.prog 15 #[.slice A n cap] w fun e w' => e = .returned (.int .i64 (readN l : Nat)) ∧ Grow w w' := by
  have hle := hL.le
  have hbig := hL.big
  have hln := hL.bytes_len
  have HL := Lib.hid hL; have HB := Lib.hid hl; have HLN := Lib.hid hln
  clear hL hl hln
  go_enter Tryd.func15, Tryd.ntmps15
  go_wp2
  go_loopw [3] (fun i wr => ∃ (t : List Nat) (k : Nat), k ≤ n ∧ i = .int .i64 k ∧ Hid (Far l t k) ∧ Grow w wr) (fun i _ => n - (intOf i).toNat)
  case atStart => exact ⟨[], 0, Nat.zero_le _, rfl, Far.start l, Grow.refl _⟩
  case round =>
    obtain ⟨t, k, hk, rfl, ht, hg⟩ := hrel
    have G1 := Lib.hid hg
    clear hg
    have stop : dec1 (l.drop k) = none → (readN l : Nat) = k := fun h => (ht.out.stop h).2
    have HS := Lib.hid stop
    clear stop
    by_cases hlt : k < n
    · obtain ⟨b, off, rfl, -, -⟩ := HL.out.pos (by omega) (by decide)
      have hcap : ¬ cap = k := by omega
      have hc2 := (HL.out.below G1.out (Nat.le_refl _)).cut1 k n (by omega) (Nat.le_refl _)
      have e2 : (l.drop k).take (n - k) = l.drop k := by rw [List.take_of_length_le (by rw [List.length_drop, HLN.out]; exact Nat.le_refl _)]
      rw [e2] at hc2
      have hbd : ∀ y ∈ l.drop k, y < 256 := fun y hy => HB.out y (List.mem_of_mem_drop hy)
      have HC2 := Lib.hid hc2; have HBD := Lib.hid hbd
      clear e2 hc2 hbd
      go_wp2_with fail
      refine (rfirst_any HC2.out HBD.out).mono ?_
      cases hd : dec1 (l.drop k) with
      | none =>
        obtain ⟨z1, z2⟩ := d1_none hd
        unfold FirstPost
        rw [z1, z2]
        have HZ := Lib.hid (HS.out hd)
        clear z1 z2 hd
        rintro e w2 ⟨rfl, g2⟩
        have G2 := Lib.hid (G1.out.trans g2)
        clear g2
        go_wp2
        go_ret
        exact ⟨ret_int (by rw [HZ.out]), G2.out⟩
      | some cm =>
        obtain ⟨c, q⟩ := cm
        obtain ⟨z1, z2⟩ := d1_some hd
        obtain ⟨h1, h2, h3⟩ := ht.out.step hd
        rw [HLN.out] at h3
        unfold FirstPost
        rw [z1, z2]
        have nz : ((q : Int) == 0) = false := by simp; omega
        have HT2 := Lib.hid h1
        clear z1 z2 hd h1
        rintro e w2 ⟨rfl, g2⟩
        have G2 := Lib.hid (G1.out.trans g2)
        clear g2
        go_wp2
        go_roundw
        case rel => exact ⟨t ++ [c], k + q, by omega, by go_num, HT2, G2.out⟩
        case measure => simp [intOf]; omega
    · obtain rfl : k = n := by omega
      have hdl : l.drop k = [] := List.drop_eq_nil_of_le (by rw [HLN.out]; exact Nat.le_refl _)
      have HZ := Lib.hid (HS.out (by rw [hdl]; exact dec1_nil))
      clear hdl HS
      have e1 : FirstPost [] wr = fun e w' => e = .returned (.tuple #[.int .i32 0, .int .i64 0]) ∧ Grow wr w' := rfl
      have E1 := Lib.hid e1
      clear e1
      rcases A with _ | ad
      · obtain rfl := HL.out.none_ rfl
        obtain rfl := HL.out.nilc rfl
        go_wp2_with fail
        refine rfirst_nil.mono ?_
        rw [E1.out]
        rintro e w2 ⟨rfl, g2⟩
        have G2 := Lib.hid (G1.out.trans g2)
        clear g2
        go_wp2
        go_ret
        exact ⟨ret_int (by rw [HZ.out]; rfl), G2.out⟩
      · by_cases hcap : cap = k
        · subst hcap
          go_wp2_with fail
          refine rfirst_nil.mono ?_
          rw [E1.out]
          rintro e w2 ⟨rfl, g2⟩
          have G2 := Lib.hid (G1.out.trans g2)
          clear g2
          go_wp2
          go_ret
          exact ⟨ret_int (by rw [HZ.out]), G2.out⟩
        · go_wp2_with fail
          refine rfirst_nil.mono ?_
          rw [E1.out]
          rintro e w2 ⟨rfl, g2⟩
          have G2 := Lib.hid (G1.out.trans g2)
          clear g2
          go_wp2
          go_ret
          exact ⟨ret_int (by rw [HZ.out]), G2.out⟩
theorem rwhole_at {A : Option Addr} {n cap : Nat} (l : List Nat) (R : Int) {w : World} (hR : (readN l : Int) = R) (hL : Lies w 1 A n cap (byt l)) (hl : ∀ y ∈ l, y < 256) :
    Calls Tryd.prog 15 #[.slice A n cap] w fun e w' => e = .returned (.int .i64 R) ∧ Grow w w' := by
  subst hR; exact rwhole_any hL hl
set_option maxRecDepth 100000 in
set_option maxHeartbeats 2000000 in
theorem rdecode_any {A : Option Addr} {n cap : Nat} {l : List Nat} {w : World} (hL : Lies w 1 A n cap (byt l)) (hl : ∀ y ∈ l, y < 256) (hn : n * 4 ≤ 140737488355328) :
    Calls Tryd.prog 12 #[.slice A n cap] w (DecPost l w) := by
  have hle := hL.le
  have hbig := hL.big
  have hln := hL.bytes_len
  have hrl := read_le l
  rw [hln] at hrl
  obtain ⟨R, hR⟩ : ∃ R, readN l = R := ⟨_, rfl⟩
  rw [hR] at hrl
  have HL := Lib.hid hL; have HB := Lib.hid hl; have HLN := Lib.hid hln; have HR := Lib.hid hR
  clear hL hl hln hR
  go_enter Tryd.func12, Tryd.ntmps12
  go_wp2_with fail
  refine (rwhole_at l (R : Int) (by rw [HR.out]) HL.out HB.out).mono ?_
  rintro e w1 ⟨rfl, g1⟩
  have G1 := Lib.hid g1
  clear g1
  by_cases hlt : R < n
  · have hd := dec_no (show readN l < l.length by rw [HR.out, HLN.out]; exact hlt)
    have HD := Lib.hid hd
    clear hd
    go_wp2
    go_ret2
    exact ⟨none, 0, 0, by rw [HD.out.1]; rfl, by rw [HD.out.2]; exact own_nilC _ _, G1.out⟩
  · have hd := dec_yes (show ¬ readN l < l.length by rw [HR.out, HLN.out]; exact hlt)
    have HD := Lib.hid hd
    clear hd
    go_wp2
    go_loopw [4, 5] (fun v i wr => ∃ (t : List Nat) (k m : Nat) (A1 : Option Addr) (c1 : Nat), k ≤ n ∧ i = .int .i64 k ∧ v = .slice A1 m c1 ∧ wr.ownsRow w.heap.size 24 1 (.slice A1 m c1) m (chs (upN t)) ∧ Hid (Far l t k) ∧ Grow w wr) (fun _ i _ => n - (intOf i).toNat)
    case atStart => exact ⟨[], 0, 0, none, 0, Nat.zero_le _, rfl, rfl, own_nilC _ _, Far.start l, G1.out⟩
    case round =>
      obtain ⟨t, k, m, A1, c1, hk, rfl, rfl, own1, ht, hg⟩ := hrel
      have hm : m ≤ k := by
        have h1 := (Lies.of_own own1).chs_len
        rw [upN_len] at h1
        have := ht.out.len
        omega
      have G2 := Lib.hid hg; have O1 := Lib.hid own1
      clear hg own1
      by_cases hkn : k < n
      · obtain ⟨b, off, rfl, -, -⟩ := HL.out.pos (by omega) (by decide)
        have hcap : ¬ cap = k := by omega
        have hc2 := (HL.out.below G2.out (Nat.le_refl _)).cut1 k n (by omega) (Nat.le_refl _)
        have e2 : (l.drop k).take (n - k) = l.drop k := by rw [List.take_of_length_le (by rw [List.length_drop, HLN.out]; exact Nat.le_refl _)]
        rw [e2] at hc2
        have hbd : ∀ y ∈ l.drop k, y < 256 := fun y hy => HB.out y (List.mem_of_mem_drop hy)
        have HC2 := Lib.hid hc2; have HBD := Lib.hid hbd
        clear e2 hc2 hbd
        cases hd : dec1 (l.drop k) with
        | none => have := (ht.out.stop hd).2; rw [HR.out] at this; omega
        | some cm =>
          obtain ⟨c, q⟩ := cm
          obtain ⟨z1, z2⟩ := d1_some hd
          obtain ⟨h1, h2, h3⟩ := ht.out.step hd
          rw [HLN.out] at h3
          have HT2 := Lib.hid h1
          have HZ := Lib.hid (And.intro z1 z2)
          clear hd h1 z1 z2
          go_wp2_with fail
          refine (rfirst_any HC2.out HBD.out).mono ?_
          unfold FirstPost
          rw [HZ.out.1, HZ.out.2]
          rintro e w2 ⟨rfl, g2⟩
          have O2 := Lib.hid (own_grow O1.out g2)
          have G3 := Lib.hid (G2.out.trans g2)
          clear g2
          go_wp2_with (at_builtin; refine wpList_appC rfl (.tmp 24) (.tmp 26) rfl w.heap.size _ m _ rfl (O2.out.alloc _) (some ⟨w2.heap.size, 0, none⟩) 1 1 [(c : Int)] rfl (lies_char (c : Int) rfl) (by omega) (by have := G3.out.size; simp; omega) ?_; intro A3 c3 w3 own3 L3 bel3)
          have hb3 := bel3 _ _ (G3.out.trans (Grow.alloc _ _)) (Nat.le_refl _)
          have e6 : upN t ++ [(c : Int)] = upN (t ++ [c]) := (upN_app t [c]).symm
          rw [e6] at own3
          clear bel3 L3 e6
          go_wp2
          go_roundw
          case rel => exact ⟨t ++ [c], k + q, m + 1, A3, c3, by omega, by go_num, rfl, own3, HT2, hb3⟩
          case measure => simp [intOf]; omega
      · obtain rfl : k = n := by omega
        have hdl : l.drop k = [] := List.drop_eq_nil_of_le (by rw [HLN.out]; exact Nat.le_refl _)
        have hs := ht.out.stop (by rw [hdl]; exact dec1_nil)
        have HS := Lib.hid hs
        clear hs hdl
        go_wp2
        go_ret2
        exact ⟨A1, m, c1, by rw [HD.out.1]; rfl, by rw [HD.out.2.1, HS.out.1]; exact O1.out, G2.out⟩
theorem rdecode_at {A : Option Addr} {n cap : Nat} (l : List Nat) (R : Int) (t : List Nat) {w : World} (hR : (decE l : Int) = R) (ht : decT l = t) (hL : Lies w 1 A n cap (byt l)) (hl : ∀ y ∈ l, y < 256) (hn : n * 4 ≤ 140737488355328) :
    Calls Tryd.prog 12 #[.slice A n cap] w fun e w' => ∃ A' m c, e = .returned (.tuple #[.slice A' m c, .int .i64 R]) ∧ w'.ownsRow w.heap.size 24 1 (.slice A' m c) m (chs (upN t)) ∧ Grow w w' := by
  subst hR ht; exact rdecode_any hL hl hn
end Go.Proofs.YtbphdojjddnljaaDoor

