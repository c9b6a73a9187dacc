/-
  crc: the contracts of Sum (any parts), laid, Grow, Concat (two parts), Mark, Clone, Equal.
-/
import Derived.Test.YthoaagkllkcacaaDoorBase
import Derived.Lib.AppendZeros
import Derived.Deep.RegionHeld3
namespace Go.Proofs.YthoaagkllkcacaaDoor
open Go.RowKit

/-- A slice of slices of bytes. -/
structure Parts (w : World) (A : Option Addr) (k c : Nat) (vs : List (Option Addr × Nat × Nat)) (ls : List (List Nat)) : Prop where
  lies : Lies w 1 A k c (vs.map fun v : Option Addr × Nat × Nat => Value.slice v.1 v.2.1 v.2.2)
  len : ls.length = k
  each : ∀ (j : Nat) (v : Option Addr × Nat × Nat) (l : List Nat), vs[j]? = some v → ls[j]? = some l → Lies w 1 v.1 v.2.1 v.2.2 (byt l) ∧ ∀ x ∈ l, x < 256
theorem Parts.at_ {w : World} {A : Option Addr} {k c : Nat} {vs : List (Option Addr × Nat × Nat)} {ls : List (List Nat)} (h : Parts w A k c vs ls) {j : Nat} (hj : j < k) :
    ∃ B n d l, w.cell? ((A.getD ⟨0, 0, none⟩).add j) = some (.slice B n d) ∧ ls[j]? = some l ∧ Lies w 1 B n d (byt l) ∧ (∀ x ∈ l, x < 256) := by
  have hl := h.lies.len
  rw [List.length_map] at hl
  obtain ⟨v, hv⟩ : ∃ v, vs[j]? = some v := ⟨_, List.getElem?_eq_getElem (by omega)⟩
  obtain ⟨l, hls⟩ : ∃ l, ls[j]? = some l := ⟨_, List.getElem?_eq_getElem (by have := h.len; omega)⟩
  rcases A with _ | a
  · exact absurd (h.lies.none_ rfl) (by omega)
  · exact ⟨v.1, v.2.1, v.2.2, l, h.lies.cells a rfl j _ (by rw [List.getElem?_map, hv]; rfl), hls, (h.each j v l hv hls).1, (h.each j v l hv hls).2⟩
theorem Parts.bytes {w : World} {A : Option Addr} {k c : Nat} {vs : List (Option Addr × Nat × Nat)} {ls : List (List Nat)} (h : Parts w A k c vs ls) : ∀ l ∈ ls, ∀ x ∈ l, x < 256 := by
  intro l hl
  obtain ⟨j, hj⟩ := List.getElem?_of_mem hl
  have hlv := h.lies.len
  rw [List.length_map] at hlv
  have hjl := (List.getElem?_eq_some_iff.1 hj).1
  obtain ⟨v, hv⟩ : ∃ v, vs[j]? = some v := ⟨_, List.getElem?_eq_getElem (by have := h.len; omega)⟩
  exact (h.each j v l hv hj).2
set_option maxRecDepth 100000 in
theorem sum_any {A : Option Addr} {k c : Nat} {vs : List (Option Addr × Nat × Nat)} {ls : List (List Nat)} {w : World} (hT : Tab w) (hP : Parts w A k c vs ls) :
    Calls Tryd.prog 13 #[.slice A k c] w fun e w' => e = .returned (.int .u32 (sum ls.flatten)) ∧ w = w' := by
  have hle := hP.lies.le
  have hbig := hP.lies.big
  go_enter Tryd.func13, Tryd.ntmps13
  go_wp2
  go_loop [3, 8] (fun x i => ∃ q R : Nat, q ≤ k ∧ i = .int .i64 q ∧ x = .int .u32 R ∧ Hid (R = sum (ls.take q).flatten ∧ R < 4294967296)) (fun _ i => k - (intOf i).toNat)
  case atStart => exact ⟨0, 0, Nat.zero_le _, rfl, rfl, ⟨by simp [sum, more_nil], by decide⟩⟩
  case round =>
    obtain ⟨q, R, hq, rfl, rfl, hr⟩ := hrel
    by_cases hlt : q < k
    · obtain ⟨b, off, rfl, hbs, -⟩ := hP.lies.pos (by omega) (by decide)
      obtain ⟨B, n, d, l, hc, hls, hL, hb⟩ := hP.at_ hlt
      simp only [Option.getD_some, add_none] at hc
      have hs : sum (ls.take (q + 1)).flatten = more R l := by
        rw [List.take_add_one, hls, hr.out.1]
        simp only [Option.toList_some, List.flatten_append, List.flatten_cons, List.flatten_nil, List.append_nil]
        exact (more_app 0 _ _).symm
      have HS := Lib.hid hs
      clear hs hls
      go_wp2_with fail
      refine (more_any (s := R) hT hr.out.2 hL hb).mono ?_
      rintro e w1 ⟨rfl, rfl⟩
      go_wp2
      go_round
      case rel => exact ⟨q + 1, _, by omega, by go_num, rfl, ⟨HS.out.symm, more_lt hr.out.2 hb⟩⟩
      case measure => simp [intOf]; omega
    · obtain rfl : q = k := by omega
      have hfin : sum ls.flatten = R := by rw [hr.out.1, ← hP.len, List.take_length]
      have HF := Lib.hid hfin
      clear hfin
      go_wp2
      go_ret
      exact ⟨ret_int (by rw [HF.out]), rfl⟩
theorem parts_lit {w : World} {e : TypeId} {g : Nat} {cs : Array Value} (vs : List (Option Addr × Nat × Nat)) (ls : List (List Nat)) (k : Nat) (hg : g = w.heap.size) (hcs : cs.toList = vs.map fun v : Option Addr × Nat × Nat => Value.slice v.1 v.2.1 v.2.2) (hk : ls.length = k) (hk2 : vs.length = k) (hk3 : k ≤ 9223372036854775807)
    (he : ∀ (j : Nat) (v : Option Addr × Nat × Nat) (l : List Nat), vs[j]? = some v → ls[j]? = some l → Lies w 1 v.1 v.2.1 v.2.2 (byt l) ∧ ∀ x ∈ l, x < 256) : Parts (w.alloc (.cells cs e)) (some ⟨g, 0, none⟩) k k vs ls := by
  subst hg
  refine ⟨?_, hk, fun j v l hv hl => ⟨((he j v l hv hl).1).alloc _, (he j v l hv hl).2⟩⟩
  rw [← hcs]
  exact Lies.new w e cs k k (Nat.le_refl _) hk3 (by rw [hcs]; simp; omega)
theorem sum1_any {A : Option Addr} {n c g : Nat} {l : List Nat} {w : World} {t : TypeId} (hT : Tab w) (hg : g = w.heap.size) (hL : Lies w 1 A n c (byt l)) (hb : ∀ x ∈ l, x < 256) :
    Calls Tryd.prog 13 #[.slice (some ⟨g, 0, none⟩) 1 1] (w.alloc (.cells #[.slice A n c] t)) fun e w' => e = .returned (.int .u32 (sum l)) ∧ w.alloc (.cells #[.slice A n c] t) = w' := by
  have hP := parts_lit (w := w) (e := t) (cs := #[.slice A n c]) [(A, n, c)] [l] 1 hg rfl rfl rfl (by decide) (by
    intro j v l' hv hl'
    match j with
    | 0 => simp at hv hl'; subst hv hl'; exact ⟨hL, hb⟩
    | j + 1 => simp at hv)
  have := sum_any (hT.alloc _) hP
  simpa using this

theorem info_u8 : (Tryd.prog.info? 5).map (fun i => (i.zero, i.size, i.bytes)) = some (some (.int .u8 0), 1, 1) := by kernel_rfl
theorem laid_any {s : Nat} {w : World} (hs : s < 4294967296) :
    Calls Tryd.prog 19 #[.int .u32 s] w fun e w' => ∃ A c, e = .returned (.slice A 4 c) ∧ Lies w' 1 A 4 c (byt (le4 s)) ∧ Below w.heap.size w w' := by
  have h1 : (s : Int) / 16777216 % 256 = (s : Int) / 16777216 := by omega
  have HH := Lib.hid h1
  clear h1
  go_enter Tryd.func19, Tryd.ntmps19
  go_wp2
  go_ret
  refine ⟨_, _, rfl, lies_lit _ 4 rfl ?_ rfl (by decide), (Below.refl _ _).alloc (Nat.le_refl _) _⟩
  simp [byt, le4]
  try omega
theorem equal_at {A B : Option Addr} {n c m d : Nat} {w : World} (a b : List Nat) (r : Bool) (ha : Lies w 1 A n c (byt a)) (hb : Lies w 1 B m d (byt b)) (h1 : ∀ x ∈ a, x < 256) (h2 : ∀ x ∈ b, x < 256) (hr : decide (a = b) = r) :
    Calls Tryd.prog 20 #[.slice A n c, .slice B m d] w fun e w' => e = .returned (.bool r) ∧ w = w' := by
  have e1 := run_convert_lies (P := Tryd.prog) ha 23 5 9 Tryd.underlying23 Tryd.underlying5 Tryd.underlying9
  have e2 := run_convert_lies (P := Tryd.prog) hb 23 5 9 Tryd.underlying23 Tryd.underlying5 Tryd.underlying9
  have e3 := str_eq h1 h2
  subst hr
  go_enter Tryd.func20, Tryd.ntmps20
  go_wp2
  go_ret
  exact ⟨by rw [← e3]; rfl, rfl⟩
theorem wpList_app8 {w : World} {ops : Array Oper} {rest : List Oper} {o : Oper} {a : Act} {Q : Exit → Act → World → Prop} (hgd : o.guard = none) (s x : Operand)
    (ho : o.op = .call { callee := .builtin .append, args := #[s, x], argTypes := #[23, 23] }) (base : Nat)
    (v : Value) (n : Nat) (l : List Nat) (hs : a.eval s = v) (hown : w.ownsRow base 5 1 v n (byt l))
    (A : Option Addr) (m c : Nat) (r : List Nat) (hx : a.eval x = .slice A m c) (hr : Lies w 1 A m c (byt r)) (hsum : n + m ≤ 140737488355328) (hbase : base ≤ w.heap.size)
    (h : ∀ (A' : Option Addr) (c' : Nat) (w' : World), w'.ownsRow base 5 1 (.slice A' (n + m) c') (n + m) (byt (l ++ r)) → Lies w' 1 A' (n + m) c' (byt (l ++ r)) → (∀ (B : Nat) (w0 : World), Below B w0 w → B ≤ base → Below B w0 w') →
      wpList Tryd.prog ops Q rest (a.put o.dst (.slice A' (n + m) c')) w') : wpList Tryd.prog ops Q (o :: rest) a w := by
  obtain ⟨i0, hi, hz0, hz1, hz2⟩ := info_parts info_u8
  refine wpList_append_lies w hgd s x _ ho base 5 i0 (.int .u8 0) 1 1 Tryd.underlying23 hi hz0 hz1 hz2 rfl (by decide) v n (byt l) hs hown A m c (byt r) hx hr (byt_one _) (by simp only [maxLen]; omega) (by omega) hbase ?_
  intro v' w' h1 _ h3
  rw [← byt_app] at h1
  obtain ⟨A', c', rfl, h4⟩ := own_form h1
  exact h A' c' w' h1 h4 h3
theorem own_empty8 (w : World) {base g : Nat} (hb : base ≤ w.heap.size) (hg : g = w.heap.size) : (w.alloc (.cells #[] 5)).ownsRow base 5 1 (.slice (some ⟨g, 0, none⟩) 0 0) 0 (byt []) := by
  subst hg
  exact World.ownsRow_made w #[] 0 hb (by simp [maxLen]) rfl
theorem clone_any {A : Option Addr} {n c : Nat} {l : List Nat} {w : World} (h : Lies w 1 A n c (byt l)) (hn : n ≤ 140737488355328) :
    Calls Tryd.prog 21 #[.slice A n c] w fun e w' => ∃ A' c', e = .returned (.slice A' n c') ∧ w'.ownsRow w.heap.size 5 1 (.slice A' n c') n (byt l) ∧ Lies w' 1 A' n c' (byt l) ∧ Below w.heap.size w w' := by
  have q : ∀ (w : World) (a : Option Addr) (n c n' c' : Nat), (binOp .eql 23 (.slice a n c) (.slice none n' c')).run Tryd.prog w = .ok (.bool a.isNone) w := fun w a n c n' c' => Lib.run_eql_slice_nil w _ _ a n c n' c' Tryd.underlying23
  rcases A with _ | ad
  · obtain rfl := h.none_ rfl
    obtain rfl := h.nilc rfl
    have hl : l = [] := List.eq_nil_of_length_eq_zero h.bytes_len
    subst hl
    go_enter Tryd.func21, Tryd.ntmps21
    go_wp2
    go_ret
    exact ⟨none, 0, rfl, World.ownsRow_nil _ _ _ _, Lies.nil _ _, Below.refl _ _⟩
  · go_enter Tryd.func21, Tryd.ntmps21
    go_wp2_with (at_builtin; refine wpList_app8 rfl (.tmp 5) (.tmp 6) rfl w.heap.size _ 0 [] rfl (own_empty8 w (Nat.le_refl _) rfl) (some ad) n c l rfl (h.alloc _) (by omega) (by simp) ?_; intro A2 c2 w2 own2 L2 bel2)
    go_ret
    simp only [Nat.zero_add, List.nil_append] at own2 L2
    exact ⟨A2, c2, by simp, own2, L2, bel2 _ _ ((Below.refl _ _).alloc (Nat.le_refl _) _) (Nat.le_refl _)⟩
theorem grow_any {m : Nat} {w : World} (h0 : 0 < m) (hm : m ≤ 140737488355328) :
    Calls Tryd.prog 24 #[.slice none 0 0, .int .i64 m] w fun e w' => ∃ A c, e = .returned (.slice A 0 c) ∧ w'.ownsRow w.heap.size 5 1 (.slice A 0 c) 0 (byt []) ∧ Below w.heap.size w w' := by
  obtain ⟨i0, hi, hz0, hz1, hz2⟩ := info_parts info_u8
  go_enter Tryd.func24, Tryd.ntmps24
  have hown := World.ownsRow_made (base := w.heap.size) (e := 5) (size := 1) w.drew (Builtin.zeroCells (Value.int .u8 0).cells m ++ Builtin.zeroCells (Value.int .u8 0).cells (grownCap w m 0 5 - m)) (grownCap w m 0 5) (Nat.le_refl _) (grownCap_le_maxLen w m 0 _ (by simp only [maxLen]; omega)) (by have := grownCap_ge w m 0 5; have hz : (Value.int IntKind.u8 0).cells.size = 1 := rfl; rw [Array.size_append, size_zeroCells, size_zeroCells, hz]; omega)
  go_wp2_with (at_builtin; refine Lib.wpList_append_run _ rfl (.tmp 20) (.tmp 21) _ _ rfl _ _ rfl rfl _ _ (Lib.run_append_nil_zeros w 23 3 _ 5 i0 (.int .u8 0) .i64 .i64 Tryd.underlying23 Tryd.underlying3 hi hz0 m h0 (by omega) (by omega) (by rw [hz2]; omega)) ?_)
  go_ret
  exact ⟨_, _, rfl, hown, ((Below.refl _ _).drew).alloc (Nat.le_refl _) _⟩
end Go.Proofs.YthoaagkllkcacaaDoor
