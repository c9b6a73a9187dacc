/-
  past: the contract of Push, where it pushes.
-/
import Derived.Test.YtfpbmpgdpnpdjaaPPast
namespace Go.Proofs.Ytfpbmpgdpnpdjaa
open Go.RowKit
set_option linter.unusedSimpArgs false

theorem types_apart {w : World} {b1 b2 : Nat} {e1 e2 : TypeId} {s1 s2 n1 n2 : Nat} {V v : Value} {xs ys : List Value} (h1 : w.ownsRow b1 e1 s1 V n1 xs) (h2 : w.ownsRow b2 e2 s2 v n2 ys) (hne : e1 ≠ e2) : BApart V v := by
  intro g hg hg2
  rcases h1.2 with ⟨rfl, -⟩ | ⟨g1, c1, cur1, rfl, -, k1, -⟩
  · cases hg
  rcases h2.2 with ⟨rfl, -⟩ | ⟨g2, c2, cur2, rfl, -, k2, -⟩
  · cases hg2
  injection hg with hg
  injection hg2 with hg2
  simp only at hg hg2
  subst hg
  subst hg2
  rw [k1] at k2
  injection k2 with k2
  injection k2 with _ k2
  exact hne k2
theorem row_apart {w : World} {b g : Nat} {e1 e2 : TypeId} {s n : Nat} {V : Value} {xs : List Value} {cs : Array Value} {m : Nat × Nat} (h1 : w.ownsRow b e1 s V n xs) (h2 : w.heap[g]? = some (.cells cs e2 m)) (hne : e1 ≠ e2) : ∀ k, V.ownBlock = some k → k ≠ g := by
  rintro k hk rfl
  rcases h1.2 with ⟨rfl, -⟩ | ⟨g1, c1, cur1, rfl, -, k1, -⟩
  · cases hk
  injection hk with hk
  simp only at hk
  subst hk
  rw [k1] at h2
  injection h2 with h2
  injection h2 with _ h2
  exact hne h2
theorem wp_app1O {w : World} {o : Oper} {a : Act} {K : Act → World → Prop} {Q : Exit → Act → World → Prop} (s x : Operand)
    (ho : o.op = .call { callee := .builtin .append, args := #[s, x], argTypes := #[58, 58] })
    (v : Value) (n : Nat) (l : List (O × Value)) (hs : a.eval s = v) (hown : w.ownsRow 0 67 4 v n (ocs l))
    (A : Option Addr) (m c : Nat) (r : List (O × Value)) (hx : a.eval x = .slice A m c) (hr : Lies w 4 A m c (ocs r)) (hoc : ∀ x ∈ r, x.2.oneCell' = true) (hsum : (n + m) * 48 ≤ 140737488355328)
    (h : ∀ v' w', w'.ownsRow 0 67 4 v' (n + m) (ocs (l ++ r)) → w.grownBy w' v.ownBlock → Fresh w v v' → K (a.put o.dst v') w') : o.wp Try.prog a w K Q := by
  obtain ⟨i0, hi, hz0, hz1, hz2⟩ := info_parts info_op
  refine wp_append_fresh w s x _ ho 0 67 i0 _ 4 48 Try.underlying58 hi hz0 hz1 hz2 rfl (by decide) v n (ocs l) hs hown A m c (ocs r) hx hr (ocs_oc _ hoc) (by simp only [maxLen]; omega) hsum (Nat.zero_le _) ?_
  intro v' w' h1 h2 h3
  rw [← ocs_app] at h1
  exact h v' w' h1 h2 h3
theorem wp_app1I {w : World} {o : Oper} {a : Act} {K : Act → World → Prop} {Q : Exit → Act → World → Prop} (s x : Operand)
    (ho : o.op = .call { callee := .builtin .append, args := #[s, x], argTypes := #[62, 62] })
    (v : Value) (n : Nat) (l : List Int) (hs : a.eval s = v) (hown : w.ownsRow 0 3 1 v n (ins l))
    (A : Option Addr) (m c : Nat) (r : List Int) (hx : a.eval x = .slice A m c) (hr : Lies w 1 A m c (ins r)) (hsum : (n + m) * 8 ≤ 140737488355328)
    (h : ∀ v' w', w'.ownsRow 0 3 1 v' (n + m) (ins (l ++ r)) → w.grownBy w' v.ownBlock → Fresh w v v' → K (a.put o.dst v') w') : o.wp Try.prog a w K Q := by
  obtain ⟨i0, hi, hz0, hz1, hz2⟩ := info_parts info_int
  refine wp_append_fresh w s x _ ho 0 3 i0 _ 1 8 Try.underlying62 hi hz0 hz1 hz2 rfl (by decide) v n (ins l) hs hown A m c (ins r) hx hr (ins_oc _) (by simp only [maxLen]; omega) hsum (Nat.zero_le _) ?_
  intro v' w' h1 h2 h3
  rw [← ins_app] at h1
  exact h v' w' h1 h2 h3
theorem lies_box1 {w : World} {g : Nat} {e : TypeId} {zs : List Int} {cs : Array Value} (h : w.heap[g]? = some (.cells cs e (0, 0))) (hc : cs.toList = ins zs) (hz : zs.length = 1) : Lies w 1 (some ⟨g, 0, none⟩) 1 1 (ins zs) := by
  refine ⟨by rw [ins_len, hz], fun h => by (cases h), Nat.le_refl _, by decide, fun a ha j u hu => ?_⟩
  injection ha with ha
  subst ha
  rw [add_none, cell_of_row w g (0 + j) cs e (0, 0) h]
  rw [← hc] at hu
  simpa using hu
theorem lies_box4 {w : World} {g : Nat} {e : TypeId} {o : O} {v : Value} (h : w.heap[g]? = some (.cells #[.int .u32 o.cl, .int .u64 o.rq, v, .bool o.un] e (0, 0))) : Lies w 4 (some ⟨g, 0, none⟩) 1 1 (ocs [(o, v)]) := by
  refine ⟨rfl, fun h => by (cases h), Nat.le_refl _, by decide, fun a ha j u hu => ?_⟩
  injection ha with ha
  subst ha
  rw [add_none, cell_of_row w g (0 + j) _ e (0, 0) h]
  have e : ocs [(o, v)] = [.int .u32 o.cl, .int .u64 o.rq, v, .bool o.un] := rfl
  rw [e] at hu
  simpa using hu
section
variable {P : Program} {ops : Array Oper} {Q : Exit → Act → World → Prop} {σ : Type} {T : Nat → Prop} {E : Nat} {w0 : World} {a0 : Act} {k : Nat} {L : List (WSpec σ)} {B : (Nat → σ) → Act} {o : Oper} {R : List Oper}
/-- A row is written, if there is one. -/
theorem WChain.writeO (hg : Good ops) (row : Option Nat) (pre : World → Prop) (V : σ → Value) (F : σ → World → Prop) (hkE : E.testBit k = false) (hgT : ∀ g, row = some g → T g) (hrow : ∀ s ∈ L, row = none ∨ row ≠ s.row) (hpre : pre w0)
    (hst0 : ∀ w w', pre w → GrowS (but T row) w w' → pre w') (hst : ∀ x w w', F x w → GrowS (but T row) w w' → F x w')
    (hw : ∀ t, Region.wanted o (yielded ops (B t).tmps) = true)
    (h : ∀ t w, GrowS T w0 w → WFacts E L (maskAt ops k) t w → pre w → ∀ K : Act → World → Prop, Hid' (∀ s w', w.grownBy w' row → F s w' → K ((B t).put o.dst (V s)) w') → Oper.wp P o (B t) w K NoEx)
    (rest : WChain P ops Q T E w0 a0 (k + 1) (L ++ [.grow row pre V F]) (fun t => (B t).put o.dst (V (t k))) R) : WChain P ops Q T E w0 a0 k L B (o :: R) :=
  WChain.step hg (.grow row pre V F) hkE ⟨fun g' hg' => hgT g' hg', hst0, fun i t w w' hF hx => hst _ _ _ hF hx⟩ hpre
    (fun j hj => by
      show row = none ∨ row ≠ _
      unfold wspecAt
      split
      · cases row with
        | none => exact .inl rfl
        | some g => exact .inr (fun h => by cases h)
      · cases hLj : L[j]? with
        | none =>
          rw [List.getD, hLj]
          cases row with
          | none => exact .inl rfl
          | some g => exact .inr (fun h => by cases h)
        | some s => rw [List.getD, hLj]; exact hrow s (List.mem_of_getElem? hLj))
    (fun ho M hM hF hB _ o' ho' => by
    rw [ho] at ho'
    injection ho' with ho'
    subst ho'
    rw [hM]
    refine fun t w hgw hN hp => ⟨by rw [← hB t]; exact hw t, fun K hK => ?_⟩
    rw [← hB t]
    rw [← hB t] at hK
    exact h t w hgw (hF t w hN) hp K hK) rest
end
theorem mem_snoc {α : Type} {C : α → Prop} {L : List α} {x : α} (h1 : ∀ s ∈ L, C s) (h2 : C x) : ∀ s ∈ L ++ [x], C s := by
  intro s hs
  rcases List.mem_append.1 hs with hs | hs
  · exact h1 s hs
  · simp at hs; subst hs; exact h2
theorem mem_no {α : Type} {C : α → Prop} : ∀ s ∈ ([] : List α), C s := fun _ h => by cases h
theorem opt_row (row : Option Nat) : row = none ∨ row ≠ none := by cases row <;> simp
theorem but_own {T : Nat → Prop} {w w' : World} {base : Nat} {e : TypeId} {sz n : Nat} {v : Value} {xs : List Value} {row : Option Nat} (k : GrowS (but T row) w w') (h : w.ownsRow base e sz v n xs) (hv : ∀ g, v.ownBlock = some g → T g → row = some g) : w'.ownsRow base e sz v n xs :=
  k.own h fun g hg ht => ht.2 (hv g hg ht.1).symm
/-- Fresh blocks are of the new set. -/
def plus (S : Nat → Prop) (w w' : World) : Nat → Prop := fun k => S k ∨ (w.heap.size ≤ k ∧ k < w'.heap.size)

theorem PastAt.make {w : World} {S : Nat → Prop} {p q : Nat} {V B : Value} {l : List (O × Value)} {lens : List Int} (st : w.heap[p]? = some (.cells #[.int .u64 q, V, B, .bool true] 85 (0, 0)))
    (row : w.ownsRow 0 67 4 V l.length (ocs l)) (rowIn : ∀ g, V.ownBlock = some g → S g) (each : ∀ x ∈ l, w.ownsRow 0 30 5 x.2 x.1.us.length (uns x.1.us)) (eachIn : ∀ x ∈ l, ∀ g, x.2.ownBlock = some g → S g)
    (len : w.ownsRow 0 3 1 B lens.length (ins lens)) (n : lens.length = l.length + 1) (pIn : S p) (lensIn : ∀ g, B.ownBlock = some g → S g) (lt : ∀ k, S k → k < w.heap.size) : PastAt w S p q V l B lens :=
  ⟨st, ⟨row, rowIn, each, eachIn, fun x hx => types_apart row (each x hx) (by decide)⟩, len, n, pIn, lensIn, types_apart row len (by decide), row_apart row st (by decide), row_apart len st (by decide), fun x hx => types_apart len (each x hx) (by decide), fun x hx => row_apart (each x hx) st (by decide), lt⟩

set_option maxRecDepth 100000 in
set_option maxHeartbeats 4000000 in
set_option linter.unusedVariables false in
theorem push_ok {p q n c : Nat} {A : Option Addr} {us : List U} {cl rq m m2 : Int} {un : Bool} {os : List O} {lens : List Int} {S : Nat → Prop} {w : World} (hP : PastIs w S p q os lens) (hL : Lies w 5 A n c (uns us)) (hA : ∀ a, A = some a → 0 < n → ¬ S a.block) (hn : n * 40 ≤ 140737488355328)
    (hm : lens[os.length]? = some m) (hlong : longV us m = (m2, 0)) (h0 : 0 ≤ m) (hm2 : m ≤ 2305843009213693952) (hq : q + os.length < 1099511627776) (hk : os.length < 256) :
    Calls Try.prog 32 #[.pointer (some ⟨p, 0, none⟩), .agg #[.int .u32 cl, .int .u64 rq, .slice A n c, .bool un]] w fun e w' =>
      e = .returned (.tuple #[.int .u64 ((q : Int) + ((os.length + 1 : Nat) : Int)), .int .i64 0]) ∧ PastIs w' (plus S w w') p q (os ++ [⟨cl, rq, us, un⟩]) (lens ++ [m2]) ∧ GrowS S w w' := by
  obtain ⟨V, l, B, hos, hP⟩ := hP
  obtain ⟨AV, cV, rfl⟩ := hP.formV
  obtain ⟨gB, cB, rfl⟩ := hP.formB
  obtain ⟨k, hlk⟩ : ∃ k, l.length = k := ⟨_, rfl⟩
  have hok : os.length = k := by rw [← hos, List.length_map]; exact hlk
  rw [hok] at hm hq hk ⊢
  rw [hlk] at hP
  have HP := Lib.hid hP; have HL := Lib.hid hL; have HA := Lib.hid hA; have HOS := Lib.hid hos; have HLK := Lib.hid hlk; have HM := Lib.hid hm; have HLONG := Lib.hid hlong
  clear hP hL hA hos hok hlk hm hlong
  go_enter Try.func32, Try.ntmps32
  go_wp2_with fail
  refine (none_made (HP.out.grow (Grow.alloc _ _)).c3).mono ?_
  rintro e w1 ⟨rfl, rfl⟩
  have bx : ∀ (i : Nat) (v : Value), ([.int .u32 cl, .int .u64 rq, .slice A n c, .bool un] : List Value)[i]? = some v → ∀ W, Grow (w.alloc (.cells #[.int .u32 cl, .int .u64 rq, .slice A n c, .bool un] 67)) W → W.cell? ⟨w.heap.size, i, none⟩ = some v := fun i v h W g => grow_cell (by rw [cell_of_row _ w.heap.size i _ _ (0, 0) (heap_alloc_new w _)]; simpa using h) g
  have BX := Lib.hid bx
  have b2 : ∀ W, Grow (w.alloc (.cells #[.int .u32 cl, .int .u64 rq, .slice A n c, .bool un] 67)) W → W.cell? ⟨w.heap.size, 2, none⟩ = some (.slice A n c) := fun W g => BX.out 2 _ rfl W g
  have c1 : ∀ W, Grow (w.alloc (.cells #[.int .u32 cl, .int .u64 rq, .slice A n c, .bool un] 67)) W → W.cell? ⟨p, 1, none⟩ = some (.slice AV k cV) := fun W g => (HP.out.grow ((Grow.alloc _ _).trans g)).c1
  have c2 : ∀ W, Grow (w.alloc (.cells #[.int .u32 cl, .int .u64 rq, .slice A n c, .bool un] 67)) W → W.cell? ⟨p, 2, none⟩ = some (.slice (some ⟨gB, 0, none⟩) (k + 1) cB) := fun W g => (HP.out.grow ((Grow.alloc _ _).trans g)).c2
  have cm : ∀ W, Grow (w.alloc (.cells #[.int .u32 cl, .int .u64 rq, .slice A n c, .bool un] 67)) W → W.cell? ⟨gB, k, none⟩ = some (.int .i64 m) := fun W g => (HP.out.grow ((Grow.alloc _ _).trans g)).lenCell HM.out
  have i0 : (0 : Int) ≤ (k : Int) := by omega
  have i1 : (k : Int) < (k : Int) + 1 := by omega
  go_wp2_with fail
  refine Chain.start Nat (by kernel_rfl) (by kernel_rfl) (fun hg => ?_)
  repeat (first | (refine Chain.skip hg (fun t => by rfl) ?_; simp only [Act.put, List.setIfInBounds_toArray, List.set_cons_zero, List.set_cons_succ]) | (refine Chain.pure hg (X := ?_) (fun t W hw hN => ⟨by rfl, ?_⟩) ?_; rotate_left; (focus (go_simp <;> with_reducible rfl)); simp only [Act.put, List.setIfInBounds_toArray, List.set_cons_zero, List.set_cons_succ]))
  refine Chain.grow hg (fun _ => .tuple #[.int .i64 m2, .int .i64 0]) (fun _ _ => True) (fun _ _ _ h _ => h) (fun _ => by rfl) (fun t W hw hN K hK => ?_) ?_
  · go_simp; refine (long_any (HL.out.below (w' := w) (Grow.refl _) (Nat.le_refl _) |>.alloc _ |>.below hw (Nat.le_refl _)) h0 hm2 (by omega)).mono ?_; rintro e w9 ⟨rfl, g9⟩; rw [HLONG.out]; exact hK.out default _ g9 trivial
  simp only [Act.put, List.setIfInBounds_toArray, List.set_cons_zero, List.set_cons_succ]
  repeat (first | (refine Chain.skip hg (fun t => by rfl) ?_; simp only [Act.put, List.setIfInBounds_toArray, List.set_cons_zero, List.set_cons_succ]) | (refine Chain.pure hg (X := ?_) (fun t W hw hN => ⟨by rfl, ?_⟩) ?_; rotate_left; (focus (go_simp <;> with_reducible rfl)); simp only [Act.put, List.setIfInBounds_toArray, List.set_cons_zero, List.set_cons_succ]))
  refine Chain.done (fun t W hw hN => ?_)
  clear hN hg b2 c1 c2 cm bx
  have HW := Lib.hid hw
  clear hw
  go_wp2_with fail
  refine (pnow_any (HP.out.grow ((Grow.alloc _ _).trans HW.out)).c0 (HP.out.grow ((Grow.alloc _ _).trans HW.out)).c1 (HP.out.grow ((Grow.alloc _ _).trans HW.out)).c3 (by omega) (by omega)).mono ?_
  obtain ⟨z, hz⟩ : ∃ z, (q : Int) + (k : Int) = z := ⟨_, rfl⟩
  rw [hz]
  have dz : decide (z ≥ 1099511627776) = false := by simp; omega
  have HZ := Lib.hid hz
  rintro e w1 ⟨rfl, rfl⟩
  have c1 := (HP.out.grow ((Grow.alloc _ _).trans HW.out)).c1
  have dk : decide ((k : Int) ≥ 256) = false := by simp; omega
  have dk2 : decide (256 ≤ k) = false := by simp; omega
  clear hz
  go_wp2_with fail
  have g3 := (Grow.alloc w (.cells #[.int .u32 cl, .int .u64 rq, .slice A n c, .bool un] 67)).trans HW.out
  have P3 := Lib.hid (HP.out.grow g3); have G3 := Lib.hid g3
  obtain ⟨T, hT⟩ : ∃ T : Nat → Prop, T = fun k2 => (Value.slice AV k cV).ownBlock = some k2 ∨ gB = k2 := ⟨_, rfl⟩
  have HT := Lib.hid hT
  have hTS : ∀ k2, T k2 → S k2 := fun k2 h => by rw [HT.out] at h; exact h.elim (P3.out.own.rowIn k2) (fun h => h ▸ P3.out.lensIn gB rfl)
  have hTp : ¬ T p := fun h => by rw [HT.out] at h; exact h.elim (fun h => P3.out.pv p h rfl) (fun h => P3.out.pb gB rfl h)
  have HTS := Lib.hid hTS; have HTP := Lib.hid hTp
  have hTb : ∀ k2, T k2 → k2 < w.heap.size := fun k2 h => HP.out.lt k2 (HTS.out k2 h)
  have HTB := Lib.hid hTb
  have b2 : ∀ (i : Nat) (v : Value), ([.int .u32 cl, .int .u64 rq, .slice A n c, .bool un] : List Value)[i]? = some v → ∀ W2, GrowS T W W2 → W2.cell? ⟨w.heap.size, i, none⟩ = some v := fun i v h W2 g => g.cell (BX.out i v h W HW.out) (fun ht => by have := HTB.out _ ht; simp at this)
  have x0 : ∀ W2, GrowS T W W2 → W2.cell? ⟨w.heap.size, 0, none⟩ = some (.int .u32 cl) := fun W2 g => b2 0 _ rfl W2 g
  have x1 : ∀ W2, GrowS T W W2 → W2.cell? ⟨w.heap.size, 1, none⟩ = some (.int .u64 rq) := fun W2 g => b2 1 _ rfl W2 g
  have x2 : ∀ W2, GrowS T W W2 → W2.cell? ⟨w.heap.size, 2, none⟩ = some (.slice A n c) := fun W2 g => b2 2 _ rfl W2 g
  have x3 : ∀ W2, GrowS T W W2 → W2.cell? ⟨w.heap.size, 3, none⟩ = some (.bool un) := fun W2 g => b2 3 _ rfl W2 g
  have y1 : ∀ W2, GrowS T W W2 → W2.cell? ⟨p, 1, none⟩ = some (.slice AV k cV) := fun W2 g => g.cell P3.out.c1 HTP.out
  have y2 : ∀ W2, GrowS T W W2 → W2.cell? ⟨p, 2, none⟩ = some (.slice (some ⟨gB, 0, none⟩) (k + 1) cB) := fun W2 g => g.cell P3.out.c2 HTP.out
  have HLW := Lib.hid (HL.out.below (w' := W) G3.out (Nat.le_refl _))
  have hLT : ∀ W2, GrowS T W W2 → Lies W2 5 A n c (uns us) := fun W2 g => g.lies0 HLW.out (fun a ha h0 ht => HA.out a ha h0 (HTS.out _ ht))
  have HLT := Lib.hid hLT
  have hnew : ∀ k2, W.heap.size ≤ k2 → ¬ T k2 := fun k2 h ht => by have := HTB.out _ ht; have := G3.out.size; omega
  have HNEW := Lib.hid hnew
  have hlv : (ocs l).length = k * 4 := by rw [ocs_len, HLK.out]
  clear b2 hT hTS hTp hTb c1 g3 hLT hnew dz dk dk2
  refine wp_region_any (by kernel_rfl) ?_
  refine wpAny_take (i := 0) (v := ?_) rfl (by kernel_rfl) (by kernel_rfl) (by kernel_rfl) (fun _ _ _ h => h) (Or.inl ⟨by rfl, fun W => ?_⟩) ?_
  rotate_left
  focus (go_simp <;> with_reducible rfl)
  simp only [Act.put, List.getElem_toArray, List.getElem_cons_succ, List.getElem_cons_zero, List.setIfInBounds_toArray, List.set_cons_zero, List.set_cons_succ]
  refine wpAny_take (i := 1) (v := ?_) rfl (by kernel_rfl) (by kernel_rfl) (by kernel_rfl) (fun _ _ _ h => h) (Or.inl ⟨by rfl, fun W => ?_⟩) ?_
  rotate_left
  focus (go_simp <;> with_reducible rfl)
  simp only [Act.put, List.getElem_toArray, List.getElem_cons_succ, List.getElem_cons_zero, List.setIfInBounds_toArray, List.set_cons_zero, List.set_cons_succ]
  refine wpAny_take (i := 2) (v := ?_) rfl (by kernel_rfl) (by kernel_rfl) (by kernel_rfl) (fun _ _ _ h => h) (Or.inl ⟨by rfl, fun W => ?_⟩) ?_
  rotate_left
  focus (go_simp <;> with_reducible rfl)
  simp only [Act.put, List.getElem_toArray, List.getElem_cons_succ, List.getElem_cons_zero, List.setIfInBounds_toArray, List.set_cons_zero, List.set_cons_succ]
  refine wpAny_take (i := 3) (v := ?_) rfl (by kernel_rfl) (by kernel_rfl) (by kernel_rfl) (fun _ _ _ h => h) (Or.inl ⟨by rfl, fun W => ?_⟩) ?_
  rotate_left
  focus (go_simp <;> with_reducible rfl)
  simp only [Act.put, List.getElem_toArray, List.getElem_cons_succ, List.getElem_cons_zero, List.setIfInBounds_toArray, List.set_cons_zero, List.set_cons_succ]
  refine wpAny_take (i := 4) (v := ?_) rfl (by kernel_rfl) (by kernel_rfl) (by kernel_rfl) (fun _ _ _ h => h) (Or.inl ⟨by rfl, fun W => ?_⟩) ?_
  rotate_left
  focus (go_simp <;> with_reducible rfl)
  simp only [Act.put, List.getElem_toArray, List.getElem_cons_succ, List.getElem_cons_zero, List.setIfInBounds_toArray, List.set_cons_zero, List.set_cons_succ]
  refine wpAny_take (i := 10) (v := ?_) rfl (by kernel_rfl) (by kernel_rfl) (by kernel_rfl) (fun _ _ _ h => h) (Or.inl ⟨by rfl, fun W => ?_⟩) ?_
  rotate_left
  focus (go_simp <;> with_reducible rfl)
  simp only [Act.put, List.getElem_toArray, List.getElem_cons_succ, List.getElem_cons_zero, List.setIfInBounds_toArray, List.set_cons_zero, List.set_cons_succ]
  refine wpAny_take (i := 11) (v := ?_) rfl (by kernel_rfl) (by kernel_rfl) (by kernel_rfl) (fun _ _ _ h => h) (Or.inl ⟨by rfl, fun W => ?_⟩) ?_
  rotate_left
  focus (go_simp <;> with_reducible rfl)
  simp only [Act.put, List.getElem_toArray, List.getElem_cons_succ, List.getElem_cons_zero, List.setIfInBounds_toArray, List.set_cons_zero, List.set_cons_succ]
  refine wpAny_take (i := 12) (v := ?_) rfl (by kernel_rfl) (by kernel_rfl) (by kernel_rfl) (fun _ _ _ h => h) (Or.inl ⟨by rfl, fun W => ?_⟩) ?_
  rotate_left
  focus (go_simp <;> with_reducible rfl)
  simp only [Act.put, List.getElem_toArray, List.getElem_cons_succ, List.getElem_cons_zero, List.setIfInBounds_toArray, List.set_cons_zero, List.set_cons_succ]
  refine wpAny_take (i := 14) (v := ?_) rfl (by kernel_rfl) (by kernel_rfl) (by kernel_rfl) (fun _ _ _ h => h) (Or.inl ⟨by rfl, fun W => ?_⟩) ?_
  rotate_left
  focus (go_simp <;> with_reducible rfl)
  simp only [Act.put, List.getElem_toArray, List.getElem_cons_succ, List.getElem_cons_zero, List.setIfInBounds_toArray, List.set_cons_zero, List.set_cons_succ]
  refine WChain.from (Value × Value × Nat) T 23583 (by kernel_rfl) (by kernel_rfl) (by kernel_rfl) (by kernel_rfl) (Grow.drew _) (fun hg => ?_)
  repeat (first | (refine WChain.was (by rfl) ?_) | (refine WChain.skip hg (by rfl) (fun t => by rfl) ?_; simp only [Act.put, List.setIfInBounds_toArray, List.set_cons_zero, List.set_cons_succ]) | (refine WChain.pure hg (X := ?_) (by rfl) (fun t W hw hN => ⟨by rfl, ?_⟩) ?_; rotate_left; (focus (go_simp <;> with_reducible rfl)); simp only [Act.put, List.setIfInBounds_toArray, List.set_cons_zero, List.set_cons_succ]))
  refine WChain.grow hg (fun s => .agg #[.int .u32 cl, .int .u64 rq, s.2.1, .bool un]) (fun s W2 => W2.ownsRow W.heap.size 30 5 s.2.1 n (uns us)) (by kernel_rfl) (fun _ _ _ h k => k.own h (fun g hg => HNEW.out g (h.lt g hg).1)) (fun _ => by rfl) (fun t W hw hN K hK => ?_) ?_
  · go_simp
    refine (pown_any (HLT.out _ hw) hn).mono ?_
    rintro e w9 ⟨A', c', rfl, own9, g9⟩
    exact hK.out (default, .slice A' n c', 0) _ g9 (own9.mono hw.size)
  simp only [Act.put, List.setIfInBounds_toArray, List.set_cons_zero, List.set_cons_succ]
  repeat (first | (refine WChain.was (by rfl) ?_) | (refine WChain.skip hg (by rfl) (fun t => by rfl) ?_; simp only [Act.put, List.setIfInBounds_toArray, List.set_cons_zero, List.set_cons_succ]) | (refine WChain.pure hg (X := ?_) (by rfl) (fun t W hw hN => ⟨by rfl, ?_⟩) ?_; rotate_left; (focus (go_simp <;> with_reducible rfl)); simp only [Act.put, List.setIfInBounds_toArray, List.set_cons_zero, List.set_cons_succ]))
  refine WChain.grow hg (fun s => .slice (some ⟨s.2.2, 0, none⟩) 1 1) (fun s W2 => W2.heap[s.2.2]? = some (.cells #[.int .u32 cl, .int .u64 rq, s.2.1, .bool un] 67 (0, 0)) ∧ W.heap.size ≤ s.2.2 ∧ W2.ownsRow W.heap.size 30 5 s.2.1 n (uns us)) (by kernel_rfl) (fun _ _ _ h k => ⟨k.kept h.1 (HNEW.out _ h.2.1), h.2.1, k.own h.2.2 (fun g hg => HNEW.out g (h.2.2.lt g hg).1)⟩) (fun _ => by rfl) (fun t W hw hN K hK => ?_) ?_
  · have h7 := hN.get 7 rfl (by rfl) (by kernel_rfl)
    go_simp
    exact hK.out (default, (t 7).2.1, _) _ (Grow.alloc _ _) ⟨heap_alloc_new _ _, hw.size, own_grow h7 (Grow.alloc _ _)⟩
  simp only [Act.put, List.setIfInBounds_toArray, List.set_cons_zero, List.set_cons_succ]
  repeat (first | (refine WChain.was (by rfl) ?_) | (refine WChain.skip hg (by rfl) (fun t => by rfl) ?_; simp only [Act.put, List.setIfInBounds_toArray, List.set_cons_zero, List.set_cons_succ]) | (refine WChain.pure hg (X := ?_) (by rfl) (fun t W hw hN => ⟨by rfl, ?_⟩) ?_; rotate_left; (focus (go_simp <;> with_reducible rfl)); simp only [Act.put, List.setIfInBounds_toArray, List.set_cons_zero, List.set_cons_succ]))
  refine WChain.writeO hg (Value.slice AV k cV).ownBlock (fun W2 => W2.ownsRow 0 67 4 (.slice AV k cV) k (ocs l)) (fun s => s.1) (fun s W2 => W2.ownsRow 0 67 4 s.1 (k + 1) (ocs (l ++ [(⟨cl, rq, us, un⟩, s.2.1)])) ∧ (s.1.ownBlock = (Value.slice AV k cV).ownBlock ∨ ∀ g, s.1.ownBlock = some g → W.heap.size ≤ g) ∧ W2.ownsRow W.heap.size 30 5 s.2.1 n (uns us)) (by kernel_rfl)
    (fun g hg => by rw [HT.out]; exact .inl hg) ?_ (by have := P3.out.own.row; rw [HLK.out] at this; exact this)
    (fun w5 w6 h5 h6 => but_own h6 h5 (fun g hg _ => hg))
    (fun s w5 w6 h5 h6 => ⟨but_own h6 h5.1 (fun g hg ht => h5.2.1.elim (fun e => e ▸ hg) (fun e => absurd ht (HNEW.out g (e g hg)))), h5.2.1, h6.own h5.2.2 (fun g hg ht => HNEW.out g (h5.2.2.lt g hg).1 ht.1)⟩)
    (fun _ => by rfl) (fun t W2 hw hN hp K hK => ?_) ?_
  · repeat (first | exact mem_no | refine mem_snoc ?_ (opt_row _))
  · have h8 := hN.get 8 rfl (by rfl) (by kernel_rfl)
    refine wp_app1O (.tmp 48) (.tmp 51) rfl _ k l rfl hp (some ⟨(t 8).2.2, 0, none⟩) 1 1 [(⟨cl, rq, us, un⟩, (t 8).2.1)] rfl (lies_box4 h8.1) (by obtain ⟨A', c', e, -⟩ := own_form h8.2.2; simp [e, Value.oneCell']) (by omega) ?_
    intro v' w' h1 h2 h3
    exact hK.out (v', (t 8).2.1, 0) w' h2 ⟨h1, h3.imp (fun e => e) (fun e g hg => Nat.le_trans hw.size (e g hg)), (h2.wide (T := T) (fun g hg => by rw [HT.out]; exact .inl hg)).own h8.2.2 (fun g hg => HNEW.out g (h8.2.2.lt g hg).1)⟩
  simp only [Act.put, List.setIfInBounds_toArray, List.set_cons_zero, List.set_cons_succ]
  repeat (first | (refine WChain.was (by rfl) ?_) | (refine WChain.skip hg (by rfl) (fun t => by rfl) ?_; simp only [Act.put, List.setIfInBounds_toArray, List.set_cons_zero, List.set_cons_succ]) | (refine WChain.pure hg (X := ?_) (by rfl) (fun t W hw hN => ⟨by rfl, ?_⟩) ?_; rotate_left; (focus (go_simp <;> with_reducible rfl)); simp only [Act.put, List.setIfInBounds_toArray, List.set_cons_zero, List.set_cons_succ]))
  refine WChain.grow hg (fun s => .slice (some ⟨s.2.2, 0, none⟩) 1 1) (fun s W2 => W2.heap[s.2.2]? = some (.cells #[.int .i64 m2] 3 (0, 0)) ∧ W.heap.size ≤ s.2.2) (by kernel_rfl) (fun _ _ _ h k => ⟨k.kept h.1 (HNEW.out _ h.2), h.2⟩) (fun _ => by rfl) (fun t W hw hN K hK => ?_) ?_
  · go_simp
    exact hK.out (default, default, _) _ (Grow.alloc _ _) ⟨heap_alloc_new _ _, hw.size⟩
  simp only [Act.put, List.setIfInBounds_toArray, List.set_cons_zero, List.set_cons_succ]
  repeat (first | (refine WChain.was (by rfl) ?_) | (refine WChain.skip hg (by rfl) (fun t => by rfl) ?_; simp only [Act.put, List.setIfInBounds_toArray, List.set_cons_zero, List.set_cons_succ]) | (refine WChain.pure hg (X := ?_) (by rfl) (fun t W hw hN => ⟨by rfl, ?_⟩) ?_; rotate_left; (focus (go_simp <;> with_reducible rfl)); simp only [Act.put, List.setIfInBounds_toArray, List.set_cons_zero, List.set_cons_succ]))
  refine WChain.writeO hg (some gB) (fun W2 => W2.ownsRow 0 3 1 (.slice (some ⟨gB, 0, none⟩) (k + 1) cB) (k + 1) (ins lens)) (fun s => s.1) (fun s W2 => W2.ownsRow 0 3 1 s.1 (k + 1 + 1) (ins (lens ++ [m2])) ∧ (s.1.ownBlock = some gB ∨ ∀ g, s.1.ownBlock = some g → W.heap.size ≤ g)) (by kernel_rfl)
    (fun g hg => by rw [HT.out]; exact .inr (by injection hg)) ?_ (by have := P3.out.len; rw [P3.out.n, HLK.out] at this; exact this)
    (fun w5 w6 h5 h6 => but_own h6 h5 (fun g hg _ => hg))
    (fun s w5 w6 h5 h6 => ⟨but_own h6 h5.1 (fun g hg ht => h5.2.elim (fun e => e ▸ hg) (fun e => absurd ht (HNEW.out g (e g hg)))), h5.2⟩)
    (fun _ => by rfl) (fun t W2 hw hN hp K hK => ?_) ?_
  · repeat (first | exact mem_no | refine mem_snoc ?_ (opt_row _) | refine mem_snoc ?_ (.inr (fun h => P3.out.vb gB h.symm rfl)))
  · have h8 := hN.get 15 rfl (by rfl) (by kernel_rfl)
    refine wp_app1I (.tmp 56) (.tmp 58) rfl _ (k + 1) lens rfl hp (some ⟨(t 15).2.2, 0, none⟩) 1 1 [m2] rfl (lies_box1 h8.1 rfl rfl) (by omega) ?_
    intro v' w' h1 h2 h3
    exact hK.out (v', default, 0) w' h2 ⟨h1, h3.imp (fun e => e) (fun e g hg => Nat.le_trans hw.size (e g hg))⟩
  simp only [Act.put, List.setIfInBounds_toArray, List.set_cons_zero, List.set_cons_succ]
  refine WChain.last (wtail_of (by kernel_rfl)) (by kernel_rfl) (fun t W4 hw hN => ?_)
  obtain ⟨r9, f9, u9⟩ := hN.get 9 rfl (by rfl) (by kernel_rfl)
  obtain ⟨r16, f16⟩ := hN.get 16 rfl (by rfl) (by kernel_rfl)
  generalize t 9 = s9 at *
  generalize t 16 = s16 at *
  obtain ⟨V', v', z9⟩ := s9
  obtain ⟨B', v16, z16⟩ := s16
  simp only at r9 f9 u9 r16 f16
  obtain ⟨AV2, cV2, rfl, -⟩ := own_form r9
  obtain ⟨AB2, cB2, rfl, -⟩ := own_form r16
  have st4 := hw.kept P3.out.st HTP.out
  have W4H := Lib.hid hw
  clear hN hg x0 x1 x2 x3 y1 y2 hw
  have d1 := cell_of_row W4 p 1 _ _ (0, 0) st4
  have d2 := cell_of_row W4 p 2 _ _ (0, 0) st4
  have e1 := frozen_of_row W4 p 1 _ _ st4
  have e2 := frozen_of_row W4 p 2 _ _ st4
  have st5 := heap_setCell_same W4 p 1 _ _ (.slice AV2 (k + 1) cV2) st4
  have st6 := heap_setCell_same (W4.setCell ⟨p, 1, none⟩ (.slice AV2 (k + 1) cV2)) p 2 _ _ (.slice AB2 (k + 1 + 1) cB2) st5
  have d3 := cell_of_row _ p 2 _ _ (0, 0) st5
  have e3 := frozen_of_row _ p 2 _ _ st5
  have gsf : GrowS (fun i => i = p) W4 ((W4.setCell ⟨p, 1, none⟩ (.slice AV2 (k + 1) cV2)).setCell ⟨p, 2, none⟩ (.slice AB2 (k + 1 + 1) cB2)) := (GrowS.setCell (T := fun i => i = p) W4 (p := ⟨p, 1, none⟩) rfl _).trans (GrowS.setCell (T := fun i => i = p) _ (p := ⟨p, 2, none⟩) rfl _)
  have szf : W4.heap.size = ((W4.setCell ⟨p, 1, none⟩ (.slice AV2 (k + 1) cV2)).setCell ⟨p, 2, none⟩ (.slice AB2 (k + 1 + 1) cB2)).heap.size := by simp [World.setCell]
  have GSF := Lib.hid gsf; have SZF := Lib.hid szf
  have keyP : ∀ {e sz x n xs}, W4.ownsRow 0 e sz x n xs → e ≠ 85 → ((W4.setCell ⟨p, 1, none⟩ (.slice AV2 (k + 1) cV2)).setCell ⟨p, 2, none⟩ (.slice AB2 (k + 1 + 1) cB2)).ownsRow 0 e sz x n xs := fun {e sz x n xs} h hne => GSF.out.own h (fun g hg e2 => row_apart h st4 hne g hg e2)
  have keyT : ∀ x ∈ l, W4.ownsRow 0 30 5 x.2 x.1.us.length (uns x.1.us) := fun x hx => W4H.out.own (P3.out.own.each x hx) (fun g hg ht => by
    rw [HT.out] at ht
    exact ht.elim (fun h => P3.out.own.apart x hx g h hg) (fun h => P3.out.ub x hx gB rfl (h ▸ hg)))
  have P6 : PastAt ((W4.setCell ⟨p, 1, none⟩ (.slice AV2 (k + 1) cV2)).setCell ⟨p, 2, none⟩ (.slice AB2 (k + 1 + 1) cB2)) (plus S w ((W4.setCell ⟨p, 1, none⟩ (.slice AV2 (k + 1) cV2)).setCell ⟨p, 2, none⟩ (.slice AB2 (k + 1 + 1) cB2))) p q (.slice AV2 (k + 1) cV2) (l ++ [(⟨cl, rq, us, un⟩, v')]) (.slice AB2 (k + 1 + 1) cB2) (lens ++ [m2]) := by
    have hn2 := HL.out.uns_len
    have hll := HLK.out
    have sz0 := G3.out.size
    refine PastAt.make (by simpa using st6) (by rw [List.length_append, hll]; exact keyP r9 (by decide)) (fun g hg => ?_) (fun x hx => ?_) (fun x hx => ?_) (by rw [List.length_append, P3.out.n, hll]; exact keyP r16 (by decide)) (by simp [P3.out.n]) (.inl P3.out.pIn) (fun g hg => ?_) (fun k2 hk2 => ?_)
    · rcases f9 with f9 | f9
      · exact .inl (P3.out.own.rowIn g (f9 ▸ hg))
      · exact .inr ⟨Nat.le_trans sz0 (f9 g hg), SZF.out ▸ (r9.lt g hg).2⟩
    · rcases List.mem_append.1 hx with hx | hx
      · exact keyP (keyT x hx) (by decide)
      · simp at hx; subst hx
        rw [show (⟨cl, rq, us, un⟩ : O).us.length = n from hn2]
        exact keyP (u9.mono (Nat.zero_le _)) (by decide)
    · rcases List.mem_append.1 hx with hx | hx
      · exact fun g hg => .inl (P3.out.own.eachIn x hx g hg)
      · simp at hx; subst hx
        exact fun g hg => .inr ⟨Nat.le_trans sz0 (u9.lt g hg).1, SZF.out ▸ (u9.lt g hg).2⟩
    · rcases f16 with f16 | f16
      · have := hg.symm.trans f16
        injection this with this
        exact .inl (this ▸ P3.out.lensIn gB rfl)
      · exact .inr ⟨Nat.le_trans sz0 (f16 g hg), SZF.out ▸ (r16.lt g hg).2⟩
    · rcases hk2 with hk2 | hk2
      · have := HP.out.lt k2 hk2
        have := W4H.out.size
        rw [← SZF.out]; omega
      · exact hk2.2
  have gall : GrowS S w ((W4.setCell ⟨p, 1, none⟩ (.slice AV2 (k + 1) cV2)).setCell ⟨p, 2, none⟩ (.slice AB2 (k + 1 + 1) cB2)) := ((G3.out.wide S).trans (W4H.out.mono HTS.out)).trans (GSF.out.mono (fun k2 h => h ▸ P3.out.pIn))
  have P6 := Lib.hid P6; have GALL := Lib.hid gall
  clear keyP keyT gall gsf szf r9 f9 u9 r16 f16
  go_wp2_with fail
  clear d1 d2 e1 e2 st4 st5 st6 d3 e3
  refine (pnow_any P6.out.c0 P6.out.c1 P6.out.c3 (by omega) (by omega)).mono ?_
  rintro e w1 ⟨rfl, rfl⟩
  go_wp2
  go_ret2
  exact ⟨rfl, ⟨_, _, _, by rw [List.map_append, HOS.out]; rfl, P6.out⟩, GALL.out⟩
end Go.Proofs.Ytfpbmpgdpnpdjaa

