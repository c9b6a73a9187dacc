/-
  utf: the contracts of read, Decode, Whole.
-/
import Derived.Test.YtbphdojjddnljaaDoorFirst
namespace Go.Proofs.YtbphdojjddnljaaDoor
open Go.RowKit
set_option linter.unusedSimpArgs false

theorem info_char : (Tryd.prog.info? 24).map (fun i => (i.zero, i.size, i.bytes)) = some (some (.int .i32 0), 1, 4) := by kernel_rfl
theorem chs_one (l : List Int) : ∀ u ∈ chs l, u.oneCell' = true := by
  intro u hu
  obtain ⟨_, _, rfl⟩ := List.mem_map.1 hu
  rfl
theorem chs_app (a b : List Int) : chs (a ++ b) = chs a ++ chs b := by simp [chs]
theorem wpList_appC {w : World} {ops : Array Oper} {rest : List Oper} {o : Oper} {a : Act} {Q : Exit → Act → World → Prop} (hgd : o.guard = none) (s x : Operand)
    (ho : o.op = .call { callee := .builtin .append, args := #[s, x], argTypes := #[22, 22] }) (base : Nat)
    (v : Value) (n : Nat) (l : List Int) (hs : a.eval s = v) (hown : w.ownsRow base 24 1 v n (chs l))
    (A : Option Addr) (m c : Nat) (r : List Int) (hx : a.eval x = .slice A m c) (hr : Lies w 1 A m c (chs r)) (hsum : (n + m) * 4 ≤ 140737488355328) (hbase : base ≤ w.heap.size)
    (h : ∀ (A' : Option Addr) (c' : Nat) (w' : World), w'.ownsRow base 24 1 (.slice A' (n + m) c') (n + m) (chs (l ++ r)) → Lies w' 1 A' (n + m) c' (chs (l ++ r)) → (∀ (B : Nat) (w0 : World), Below B w0 w → B ≤ base → Below B w0 w') →
      wpList Tryd.prog ops Q rest (a.put o.dst (.slice A' (n + m) c')) w') : wpList Tryd.prog ops Q (o :: rest) a w := by
  obtain ⟨i0, hi, hz0, hz1, hz2⟩ := info_parts info_char
  refine wpList_append_lies w hgd s x _ ho base 24 i0 (.int .i32 0) 1 4 Tryd.underlying22 hi hz0 hz1 hz2 rfl (by decide) v n (chs l) hs hown A m c (chs r) hx hr (chs_one _) (by simp only [maxLen]; omega) hsum hbase ?_
  intro v' w' h1 _ h3
  rw [← chs_app] at h1
  obtain ⟨A', c', rfl, h4⟩ := own_form h1
  exact h A' c' w' h1 h4 h3
theorem lies_char {w : World} {e : TypeId} {g : Nat} (x : Int) (hg : g = w.heap.size) : Lies (w.alloc (.cells #[.int .i32 x] e)) 1 (some ⟨g, 0, none⟩) 1 1 (chs [x]) := by
  subst hg
  exact Lies.new w e #[.int .i32 x] 1 1 (Nat.le_refl _) (by decide) rfl
theorem own_nilC (w : World) (b : Nat) : w.ownsRow b 24 1 (.slice none 0 0) 0 (chs []) := World.ownsRow_nil _ _ _ _
theorem upN_app (a b : List Nat) : upN (a ++ b) = upN a ++ upN b := by simp [upN]
theorem d1_none {l : List Nat} (h : dec1 l = none) : d1c l = 0 ∧ d1n l = 0 := by unfold d1c d1n; rw [h]; exact ⟨rfl, rfl⟩
theorem d1_some {l : List Nat} {c n : Nat} (h : dec1 l = some (c, n)) : d1c l = c ∧ d1n l = n := by unfold d1c d1n; rw [h]; exact ⟨rfl, rfl⟩

theorem first_any {A : Option Addr} {n cap : Nat} {l : List Nat} {w : World} (hT : Tab w) (hL : Lies w 1 A n cap (byt l)) (hl : ∀ y ∈ l, y < 256) :
    Calls Tryd.prog 26 #[.slice A n cap] w (FirstPost l w) := by
  match l with
  | [] =>
    have : n = 0 := by have := hL.bytes_len; simpa using this.symm
    subst this
    exact first_nil
  | x :: r =>
    have hn : 0 < n := by have := hL.bytes_len; rw [List.length_cons] at this; omega
    obtain ⟨b, off, rfl, -, -⟩ := hL.pos hn (by decide)
    exact first_some hT hL hl
def ReadPost (l : List Nat) (w : World) (e : Ending) (w' : World) : Prop :=
  ∃ A m c, e = .returned (.tuple #[.slice A m c, .int .i64 (readN l : Nat)]) ∧ w'.ownsRow w.heap.size 24 1 (.slice A m c) m (chs (upN (readT l))) ∧ Grow w w'
set_option maxRecDepth 100000 in
set_option maxHeartbeats 2000000 in
theorem read_any {A : Option Addr} {n cap : Nat} {l : List Nat} {w : World} (hT : Tab w) (hL : Lies w 1 A n cap (byt l)) (hl : ∀ y ∈ l, y < 256) (hn : n * 4 ≤ 140737488355328) :
    Calls Tryd.prog 24 #[.slice A n cap] w (ReadPost l w) := by
  have hle := hL.le
  have hbig := hL.big
  have hln := hL.bytes_len
  have HT := Lib.hid hT; have HL := Lib.hid hL; have HB := Lib.hid hl; have HLN := Lib.hid hln
  clear hT hL hl hln
  go_enter Tryd.func24, Tryd.ntmps24
  go_wp2
  go_loopw [4, 5] (fun v i wr => ∃ (t : List Nat) (k m : Nat) (A1 : Option Addr) (c1 : Nat), k ≤ n ∧ i = .int .i64 k ∧ v = .slice A1 m c1 ∧ wr.ownsRow w.heap.size 24 1 (.slice A1 m c1) m (chs (upN t)) ∧ Hid (valid t ∧ k = (encL t).length ∧ l = encL t ++ l.drop k) ∧ Below w.heap.size w wr) (fun _ i _ => n - (intOf i).toNat)
  case atStart => exact ⟨[], 0, 0, none, 0, Nat.zero_le _, rfl, rfl, own_nilC _ _, ⟨fun c hc => (by cases hc), rfl, by simp [encL]⟩, Below.refl _ _⟩
  case round =>
    obtain ⟨t, k, m, A1, c1, hk, rfl, rfl, own1, ht, hb⟩ := hrel
    have hm : m ≤ k := by
      have h1 := (Lies.of_own own1).len
      rw [chs_len, upN_len] at h1
      have h2 := (encL_len t).1
      have := ht.out.2.1
      omega
    have stop : dec1 (l.drop k) = none → ReadPost l w (.returned (.tuple #[.slice A1 m c1, .int .i64 (k : Int)])) wr := by
      intro h
      obtain ⟨h1, h2, h3⟩ := ht.out
      obtain ⟨e1, e2⟩ := read_unique h1 h3 h
      exact ⟨A1, m, c1, by rw [e2, ← h2], by rw [e1]; exact own1, hb⟩
    have grow : ∀ w', Grow wr w' → dec1 (l.drop k) = none → ReadPost l w (.returned (.tuple #[.slice A1 m c1, .int .i64 (k : Int)])) w' := by
      intro w' g h
      obtain ⟨A2, m2, c2, q1, q2, q3⟩ := stop h
      injection q1 with q1
      exact ⟨A2, m2, c2, by rw [q1], own_grow q2 g, then_ q3 g⟩
    have HG := Lib.hid grow
    clear stop grow
    by_cases hlt : k < n
    · obtain ⟨b, off, rfl, -, -⟩ := HL.out.pos (by omega) (by decide)
      have hcap : ¬ cap = k := by omega
      have hc2 := (HL.out.below hb (Nat.le_refl _)).cut1 k n (by omega) (Nat.le_refl _)
      have e2 : (l.drop k).take (n - k) = l.drop k := by rw [List.take_of_length_le (by rw [List.length_drop, HLN.out]; exact Nat.le_refl _)]
      rw [e2] at hc2
      have hbd : ∀ y ∈ l.drop k, y < 256 := fun y hy => HB.out y (List.mem_of_mem_drop hy)
      have HC2 := Lib.hid hc2; have HBD := Lib.hid hbd
      clear e2 hc2 hbd
      go_wp2_with fail
      refine (first_any (HT.out.same hb) HC2.out HBD.out).mono ?_
      cases hd : dec1 (l.drop k) with
      | none =>
        obtain ⟨z1, z2⟩ := d1_none hd
        unfold FirstPost
        rw [z1, z2]
        have HGG := Lib.hid fun w' g => HG.out w' g hd
        clear z1 z2 hd
        rintro e w2 ⟨rfl, g2⟩
        have HQ := Lib.hid (HGG.out w2 g2)
        clear g2
        go_wp2
        go_ret2
        exact HQ.out
      | some cm =>
        obtain ⟨c, q⟩ := cm
        obtain ⟨z1, z2⟩ := d1_some hd
        obtain ⟨q1, q4, q3⟩ := dec1_len hd
        rw [List.length_drop, HLN.out] at q3
        obtain ⟨r1, r2, r3⟩ := ht.out
        obtain ⟨-, hs⟩ := read_step t (l.drop k) r1
        obtain ⟨s1, s2, s3, s, s4⟩ := hs c q hd
        have ht2 : valid (t ++ [c]) ∧ k + q = (encL (t ++ [c])).length ∧ l = encL (t ++ [c]) ++ l.drop (k + q) := by
          refine ⟨s1, by rw [s2, List.length_append, ← r2, s3], ?_⟩
          have e5 : l.drop (k + q) = s := by rw [← List.drop_drop, s4, s3, List.drop_left]
          rw [s2, e5, List.append_assoc, ← s4]
          exact r3
        unfold FirstPost
        rw [z1, z2]
        have HT2 := Lib.hid ht2
        have nz : ((q : Int) == 0) = false := by simp; omega
        have q0 : 0 < q := by omega
        clear z1 z2 hd r1 r2 r3 s1 s2 s3 s4 ht2
        rintro e w2 ⟨rfl, g2⟩
        have own2 := own_grow own1 g2
        have hb2 := then_ hb g2
        clear g2 own1 hb
        go_wp2_with (at_builtin; refine wpList_appC rfl (.tmp 19) (.tmp 21) rfl w.heap.size _ m _ rfl (own2.alloc _) (some ⟨w2.heap.size, 0, none⟩) 1 1 [(c : Int)] rfl (lies_char (c : Int) rfl) (by omega) (by have := hb2.size; simp; omega) ?_; intro A3 c3 w3 own3 L3 bel3)
        have hb3 := bel3 _ _ (hb2.alloc hb2.size _) (Nat.le_refl _)
        have e6 : upN t ++ [(c : Int)] = upN (t ++ [c]) := (upN_app t [c]).symm
        rw [e6] at own3
        clear bel3 own2 L3 hb2 e6
        go_wp2
        go_roundw
        case rel => exact ⟨t ++ [c], k + q, m + 1, A3, c3, by omega, by go_num, rfl, own3, HT2.out, hb3⟩
        case measure => simp [intOf]; omega
    · obtain rfl : k = n := by omega
      have hd : dec1 (l.drop k) = none := by rw [List.drop_eq_nil_of_le (by rw [HLN.out]; exact Nat.le_refl _)]; exact dec1_nil
      have hdl : l.drop k = [] := List.drop_eq_nil_of_le (by rw [HLN.out]; exact Nat.le_refl _)
      have HGG := Lib.hid fun w' g => HG.out w' g hd
      have e1 : FirstPost [] wr = fun e w' => e = .returned (.tuple #[.int .i32 0, .int .i64 0]) ∧ Grow wr w' := rfl
      have E1 := Lib.hid e1
      clear hd hdl HG e1
      rcases A with _ | ad
      · obtain rfl := HL.out.none_ rfl
        obtain rfl := HL.out.nilc rfl
        go_wp2_with fail
        refine first_nil.mono ?_
        rw [E1.out]
        rintro e w2 ⟨rfl, g2⟩
        have HQ := Lib.hid (HGG.out w2 g2)
        clear g2
        go_wp2
        go_ret2
        exact HQ.out
      · by_cases hcap : cap = k
        · subst hcap
          go_wp2_with fail
          refine first_nil.mono ?_
          rw [E1.out]
          rintro e w2 ⟨rfl, g2⟩
          have HQ := Lib.hid (HGG.out w2 g2)
          clear g2
          go_wp2
          go_ret2
          exact HQ.out
        · go_wp2_with fail
          refine first_nil.mono ?_
          rw [E1.out]
          rintro e w2 ⟨rfl, g2⟩
          have HQ := Lib.hid (HGG.out w2 g2)
          clear g2
          go_wp2
          go_ret2
          exact HQ.out
end Go.Proofs.YtbphdojjddnljaaDoor

