/-
  utf: the contract of the reference's first.
-/
import Derived.Test.YtbphdojjddnljaaDoorRefEnc
namespace Go.Proofs.YtbphdojjddnljaaDoor
open Go.RowKit
set_option linter.unusedSimpArgs false

def stepv (c : Int) (y : Nat) : Int := 64 * c + (y : Int) - 128
def offv (k : Nat) : Int := match k with
  | 0 => 0
  | 1 => 192
  | 2 => 224
  | _ => 240
/-- The number that the reference reckons of a lead byte and the bytes behind it. -/
def rv (k x : Nat) (ys : List Nat) : Int := ys.foldl stepv ((x : Int) - offv k)
theorem offv_bd (k : Nat) : 0 ≤ offv k ∧ offv k ≤ 240 := by unfold offv; split <;> omega
theorem rv_bd {k x : Nat} {ys : List Nat} (hx : x < 256) (hy : ∀ y ∈ ys, y < 256) (hl : ys.length ≤ 3) : -68157440 ≤ rv k x ys ∧ rv k x ys ≤ 68157440 := by
  have ho := offv_bd k
  unfold rv
  match ys, hl with
  | [], _ => simp only [List.foldl_nil]; omega
  | [a], _ =>
    have := hy a (by simp)
    simp only [List.foldl_nil, List.foldl_cons, stepv]; omega
  | [a, b], _ =>
    have := hy a (by simp)
    have := hy b (by simp)
    simp only [List.foldl_nil, List.foldl_cons, stepv]; omega
  | [a, b, c], _ =>
    have := hy a (by simp)
    have := hy b (by simp)
    have := hy c (by simp)
    simp only [List.foldl_nil, List.foldl_cons, stepv]; omega
  | a :: b :: c :: d :: r, h => simp at h
theorem rv_snoc {k x j y : Nat} {r : List Nat} (h : r[j]? = some y) : rv k x (r.take (j + 1)) = 64 * rv k x (r.take j) + (y : Int) - 128 := by
  unfold rv
  rw [List.take_add_one, h]
  simp [List.foldl_append, stepv]
theorem rv_hit {k x : Nat} {r : List Nat} (hk : k < 4) (h : hit k (x :: r) = true) : ∃ c : Nat, rv k x (r.take k) = (c : Int) ∧ mayI (c : Int) = true ∧ szN c = k + 1 ∧ one c = (x :: r).take (k + 1) ∧ val k (x :: r) = c := by
  obtain ⟨c, s, h1, h2, h3⟩ := (hit_iff hk).1 h
  have hv : val k (x :: r) = c := by rw [h3]; exact hit_val h1 h2
  refine ⟨c, ?_, h1, h2, by rw [h3, List.take_left' (by rw [one_len, h2])], hv⟩
  match k, hk with
  | 0, _ =>
    obtain ⟨_, ho⟩ := one_1 h2
    rw [ho] at h3
    injection h3 with e1 e2
    subst e1
    simp [rv, offv]
  | 1, _ =>
    obtain ⟨_, _, ho⟩ := one_2 h2
    rw [ho] at h3
    injection h3 with e1 e2
    subst e1 e2
    simp only [List.nil_append, List.cons_append, List.append_eq, List.take_succ_cons, List.take_zero, rv, show offv 1 = 192 from rfl, List.foldl_cons, List.foldl_nil, stepv]
    omega
  | 2, _ =>
    obtain ⟨_, _, ho⟩ := one_3 h2
    rw [ho] at h3
    injection h3 with e1 e2
    subst e1 e2
    simp only [List.nil_append, List.cons_append, List.append_eq, List.take_succ_cons, List.take_zero, rv, show offv 2 = 224 from rfl, List.foldl_cons, List.foldl_nil, stepv]
    omega
  | 3, _ =>
    obtain ⟨_, ho⟩ := one_4 h2
    rw [ho] at h3
    injection h3 with e1 e2
    subst e1 e2
    simp only [List.nil_append, List.cons_append, List.append_eq, List.take_succ_cons, List.take_zero, rv, show offv 3 = 240 from rfl, List.foldl_cons, List.foldl_nil, stepv]
    omega
theorem rv_miss {k : Nat} {l : List Nat} {c : Nat} (hk : k < 4) (hm : mayI (c : Int) = true) (hlen : k + 1 ≤ l.length) (h : one c = l.take (k + 1)) : hit k l = true := by
  refine (hit_iff hk).2 ⟨c, l.drop (k + 1), hm, ?_, by rw [h, List.take_append_drop]⟩
  have := congrArg List.length h
  rw [one_len, List.length_take] at this
  omega
theorem hit_short {k : Nat} {l : List Nat} (hk : k < 4) (h : l.length ≤ k) : hit k l = false := by
  cases hh : hit k l with
  | false => rfl
  | true =>
    obtain ⟨c, s, h1, h2, rfl⟩ := (hit_iff hk).1 hh
    rw [List.length_append, one_len] at h
    omega
theorem dec1_none {l : List Nat} (h : ∀ j, j < 4 → hit j l = false) : dec1 l = none := by
  unfold dec1
  rw [h 0 (by decide), h 1 (by decide), h 2 (by decide), h 3 (by decide)]
  rfl

set_option maxRecDepth 100000 in
set_option maxHeartbeats 4000000 in
set_option linter.unusedVariables false in
theorem rfirst_some {b off n cap x : Nat} {r : List Nat} {w : World} (hL : Lies w 1 (some ⟨b, off, none⟩) n cap (byt (x :: r))) (hl : ∀ y ∈ x :: r, y < 256) :
    Calls Tryd.prog 25 #[.slice (some ⟨b, off, none⟩) n cap] w (FirstPost (x :: r) w) := by
  have hle := hL.le
  have hbig := hL.big
  have hln := hL.bytes_len
  have hx : x < 256 := hl x (by simp)
  have hn0 : 0 < n := by rw [List.length_cons] at hln; omega
  have HL := Lib.hid hL; have HB := Lib.hid hl; have HLN := Lib.hid hln
  have hc0 : w.cell? ⟨b, off, none⟩ = some (.int .u8 (x : Int)) := by have := hL.cells _ rfl 0 (.int .u8 (x : Int)) rfl; rwa [add_none, Nat.add_zero] at this
  have HC0 := Lib.hid hc0
  clear hL hl hln hc0
  go_enter Tryd.func25, Tryd.ntmps25
  go_wp2
  go_loopw [4] (fun i wr => ∃ k : Nat, 1 ≤ k ∧ k ≤ 5 ∧ i = .int .i64 k ∧ Hid (∀ j, j + 1 < k → hit j (x :: r) = false) ∧ Grow w wr) (fun i _ => 5 - (intOf i).toNat)
  case atStart => exact ⟨1, by omega, by omega, rfl, fun j hj => by omega, Grow.refl _⟩
  case round =>
    obtain ⟨k, hk1, hk, rfl, hno, hg⟩ := hrel
    have hx0 := grow_cell HC0.out hg
    match k, hk with
    | 0, _ => omega
    | 1, _ =>
      rw [show ((1 : Nat) : Int) = 1 from rfl]
      by_cases hlen : 1 ≤ n
      · have g1 : decide ((1 : Int) ≤ (n : Int)) = true := by simp; omega
        have g2 : decide (1 ≤ n) = true := by simp; omega
        have GR0 := Lib.hid hg
        clear hg
        go_wp2
        go_loopw [5, 6] (fun c i wx => ∃ (j : Nat) (C : Int), 1 ≤ j ∧ j ≤ 1 ∧ i = .int .i64 (j : Int) ∧ c = .int .i64 C ∧ Hid (rv 0 x (r.take (j - 1)) = C) ∧ wr = wx) (fun _ i _ => 1 - (intOf i).toNat)
        case atStart => exact ⟨1, (x : Int), by omega, by omega, by first | rfl | trivial, by first | rfl | trivial, by simp [Hid, rv, offv], by first | rfl | trivial⟩
        case round =>
        obtain ⟨j, C, hj1, hj, rfl, rfl, hC, rfl⟩ := hrel
        have hbd : -68157440 ≤ C ∧ C ≤ 68157440 := by
          rw [← hC.out]
          exact rv_bd hx (fun y hy => HB.out y (List.mem_cons_of_mem _ (List.mem_of_mem_take hy))) (by rw [List.length_take]; omega)
        obtain ⟨hb1, hb2⟩ := hbd
        by_cases hlt : j < 1
        · omega
        · obtain rfl : j = 1 := by omega
          rw [show ((1 : Nat) : Int) = 1 from rfl]
          have hv0 := rv_hit (k := 0) (x := x) (r := r) (by decide)
          rw [show r.take 0 = r.take (1 - 1) from rfl, hC.out] at hv0
          obtain ⟨p, hp⟩ : ∃ p, (x :: r).take 1 = p := ⟨_, rfl⟩
          have v1 : ∀ W : World, Grow wr W → (convert 23 9 (.slice (some ⟨b, off, none⟩) 1 cap)).run Tryd.prog W = .ok (.string (str p)) W := fun W h => by rw [← hp]; exact conv_bytes ((HL.out.below (GR0.out.trans h) (Nat.le_refl _)).takeb 1 hlen)
          have s1 : ((1 : Nat) : Int) ≤ (cap : Int) := by omega
          have s2 : 1 ≤ cap := by omega
          have s3 : decide ((1 : Int) ≤ (cap : Int)) = true := by simp; omega
          have s4 : decide (1 ≤ cap) = true := by simp; omega
          have s5 : 0 < cap := by omega
          have s6 : (1 : Int) ≤ (cap : Int) := by omega
          have w32 : wrap32 C = C := IntWalk.wrap32_in _ ⟨by omega, by omega⟩
          have v32 : IntKind.i32.wrap C = C := by rw [IntKind.wrap_i32]; omega
          have GR := Lib.hid (Grow.refl wr)
          have next : hit 0 (x :: r) = false → ∀ j, j + 1 < 2 → hit j (x :: r) = false := by
            intro h j hj
            by_cases hjk : j = 0
            · rw [hjk]; exact h
            · exact hno.out j (by omega)
          have NX := Lib.hid next
          have HV := Lib.hid hv0; have HP := Lib.hid hp
          clear next hv0 hlt hp
          by_cases hm : mayI C = true
          · have hC0 := (mayI_iff C).1 hm
            obtain ⟨c, hc⟩ := Int.eq_ofNat_of_zero_le hC0.1
            obtain ⟨q, hq⟩ : ∃ q, szN c = q := ⟨_, rfl⟩
            have HM := Lib.hid hm; have HCC := Lib.hid hc; have HQ := Lib.hid hq
            clear hm hC0 hc hq
            by_cases heq : one c = p
            · have hmc : mayI (c : Int) = true := by rw [← HCC.out]; exact HM.out
              have hh := rv_miss (k := 0) (by decide) hmc (by rw [HLN.out]; exact hlen) (heq.trans HP.out.symm)
              obtain ⟨c2, h1, h2, h3, h4, h5⟩ := HV.out hh
              obtain rfl : c2 = c := by have := HCC.out; rw [h1] at this; omega
              have hd := dec1_at (by decide) (fun j hj => hno.out j (by omega)) hh
              rw [h5] at hd
              have HD := Lib.hid hd
              have es : ((str (one c2)).toList == (str p).toList) = true := by rw [heq]; simp
              clear hmc hh h1 h2 h3 h4 h5 hd heq
              go_wp2_with fail
              refine Chain.start Nat (by kernel_rfl) (by kernel_rfl) (fun hg => ?_)
              repeat (first | (refine Chain.skip hg (fun t => by rfl) ?_; simp only [Act.put, List.setIfInBounds_toArray, List.set_cons_zero, List.set_cons_succ]) | (refine Chain.pure hg (X := ?_) (fun t W hw hN => ⟨by rfl, ?_⟩) ?_; rotate_left; (focus (go_simp <;> with_reducible rfl)); simp only [Act.put, List.setIfInBounds_toArray, List.set_cons_zero, List.set_cons_succ]))
              refine Chain.grow hg (fun _ => .bool true) (fun _ _ => True) (fun _ _ _ h _ => h) (fun _ => by rfl) (fun t W hw hN K hK => ?_) ?_
              · go_simp; refine (rmay_at true HM.out).mono ?_; rintro e w9 ⟨rfl, rfl⟩; exact hK.out default _ (Grow.refl _) trivial
              simp only [Act.put, List.setIfInBounds_toArray, List.set_cons_zero, List.set_cons_succ]
              repeat (first | (refine Chain.skip hg (fun t => by rfl) ?_; simp only [Act.put, List.setIfInBounds_toArray, List.set_cons_zero, List.set_cons_succ]) | (refine Chain.pure hg (X := ?_) (fun t W hw hN => ⟨by rfl, ?_⟩) ?_; rotate_left; (focus (go_simp <;> with_reducible rfl)); simp only [Act.put, List.setIfInBounds_toArray, List.set_cons_zero, List.set_cons_succ]))
              refine Chain.grow hg (fun s => .slice (some ⟨s, 0, none⟩) q q) (fun s V => Lies V 1 (some ⟨s, 0, none⟩) q q (byt (one c2))) (fun _ _ _ h k => h.below k (Nat.le_refl _)) (fun _ => by rfl) (fun t W hw hN K hK => ?_) ?_
              · go_simp; refine (rone_int HCC.out (by rw [← HCC.out]; exact HM.out) HQ.out).mono ?_; rintro e w3 ⟨g, rfl, L3, hg3⟩; exact hK.out g _ hg3 L3
              simp only [Act.put, List.setIfInBounds_toArray, List.set_cons_zero, List.set_cons_succ]
              refine Chain.pure hg (X := fun _ => .string (str (one c2))) (fun t W hw hN => ⟨by rfl, ?_⟩) ?_
              · have hc := hN.get 6 rfl (by kernel_rfl); have hv := conv_bytes hc; go_simp
              simp only [Act.put, List.setIfInBounds_toArray, List.set_cons_zero, List.set_cons_succ]
              repeat (first | (refine Chain.skip hg (fun t => by rfl) ?_; simp only [Act.put, List.setIfInBounds_toArray, List.set_cons_zero, List.set_cons_succ]) | (refine Chain.pure hg (X := ?_) (fun t W hw hN => ⟨by rfl, ?_⟩) ?_; rotate_left; (focus (go_simp <;> with_reducible rfl)); simp only [Act.put, List.setIfInBounds_toArray, List.set_cons_zero, List.set_cons_succ]))
              refine Chain.done (fun t W hw hN => ?_)
              clear hN hg v1
              have hgW := GR.out.trans hw

              go_wp2
              go_ret2
              refine ⟨?_, GR0.out.trans hgW⟩
              rw [HD.out.1, HD.out.2, HCC.out]
              rfl
            · have hnot : hit 0 (x :: r) = false := by
                cases hh : hit 0 (x :: r) with
                | false => rfl
                | true =>
                  obtain ⟨c2, h1, h2, h3, h4, h5⟩ := HV.out hh
                  obtain rfl : c2 = c := by have := HCC.out; rw [h1] at this; omega
                  exact absurd (h4.trans HP.out) heq
              have hmc : mayI (c : Int) = true := by rw [← HCC.out]; exact HM.out
              have es : ((str (one c)).toList == (str p).toList) = false := by rw [str_eq (one_bytes (may_le hmc)) (fun z hz => by rw [← HP.out] at hz; exact HB.out z (List.mem_of_mem_take hz))]; exact decide_eq_false heq
              have N2 := Lib.hid (NX.out hnot)
              clear hmc heq hnot
              go_wp2_with fail
              refine Chain.start Nat (by kernel_rfl) (by kernel_rfl) (fun hg => ?_)
              repeat (first | (refine Chain.skip hg (fun t => by rfl) ?_; simp only [Act.put, List.setIfInBounds_toArray, List.set_cons_zero, List.set_cons_succ]) | (refine Chain.pure hg (X := ?_) (fun t W hw hN => ⟨by rfl, ?_⟩) ?_; rotate_left; (focus (go_simp <;> with_reducible rfl)); simp only [Act.put, List.setIfInBounds_toArray, List.set_cons_zero, List.set_cons_succ]))
              refine Chain.grow hg (fun _ => .bool true) (fun _ _ => True) (fun _ _ _ h _ => h) (fun _ => by rfl) (fun t W hw hN K hK => ?_) ?_
              · go_simp; refine (rmay_at true HM.out).mono ?_; rintro e w9 ⟨rfl, rfl⟩; exact hK.out default _ (Grow.refl _) trivial
              simp only [Act.put, List.setIfInBounds_toArray, List.set_cons_zero, List.set_cons_succ]
              repeat (first | (refine Chain.skip hg (fun t => by rfl) ?_; simp only [Act.put, List.setIfInBounds_toArray, List.set_cons_zero, List.set_cons_succ]) | (refine Chain.pure hg (X := ?_) (fun t W hw hN => ⟨by rfl, ?_⟩) ?_; rotate_left; (focus (go_simp <;> with_reducible rfl)); simp only [Act.put, List.setIfInBounds_toArray, List.set_cons_zero, List.set_cons_succ]))
              refine Chain.grow hg (fun s => .slice (some ⟨s, 0, none⟩) q q) (fun s V => Lies V 1 (some ⟨s, 0, none⟩) q q (byt (one c))) (fun _ _ _ h k => h.below k (Nat.le_refl _)) (fun _ => by rfl) (fun t W hw hN K hK => ?_) ?_
              · go_simp; refine (rone_int HCC.out (by rw [← HCC.out]; exact HM.out) HQ.out).mono ?_; rintro e w3 ⟨g, rfl, L3, hg3⟩; exact hK.out g _ hg3 L3
              simp only [Act.put, List.setIfInBounds_toArray, List.set_cons_zero, List.set_cons_succ]
              refine Chain.pure hg (X := fun _ => .string (str (one c))) (fun t W hw hN => ⟨by rfl, ?_⟩) ?_
              · have hc := hN.get 6 rfl (by kernel_rfl); have hv := conv_bytes hc; go_simp
              simp only [Act.put, List.setIfInBounds_toArray, List.set_cons_zero, List.set_cons_succ]
              repeat (first | (refine Chain.skip hg (fun t => by rfl) ?_; simp only [Act.put, List.setIfInBounds_toArray, List.set_cons_zero, List.set_cons_succ]) | (refine Chain.pure hg (X := ?_) (fun t W hw hN => ⟨by rfl, ?_⟩) ?_; rotate_left; (focus (go_simp <;> with_reducible rfl)); simp only [Act.put, List.setIfInBounds_toArray, List.set_cons_zero, List.set_cons_succ]))
              refine Chain.done (fun t W hw hN => ?_)
              clear hN hg v1
              have hgW := GR.out.trans hw

              have hgW2 := GR0.out.trans hgW
              go_wp2
              go_roundw
              case rel => exact ⟨2, by omega, by omega, rfl, N2, hgW2⟩
              case measure => simp [intOf]
          · have hnot : hit 0 (x :: r) = false := by
              cases hh : hit 0 (x :: r) with
              | false => rfl
              | true =>
                obtain ⟨c2, h1, h2, h3, h4, h5⟩ := HV.out hh
                rw [h1] at hm
                exact absurd h2 hm
            have hmf : mayI C = false := by cases hh : mayI C with
              | false => rfl
              | true => exact absurd hh hm
            have HM := Lib.hid hmf
            have N2 := Lib.hid (NX.out hnot)
            clear hm hmf hnot
            go_wp2_with fail
            refine Chain.start Nat (by kernel_rfl) (by kernel_rfl) (fun hg => ?_)
            repeat (first | (refine Chain.skip hg (fun t => by rfl) ?_; simp only [Act.put, List.setIfInBounds_toArray, List.set_cons_zero, List.set_cons_succ]) | (refine Chain.pure hg (X := ?_) (fun t W hw hN => ⟨by rfl, ?_⟩) ?_; rotate_left; (focus (go_simp <;> with_reducible rfl)); simp only [Act.put, List.setIfInBounds_toArray, List.set_cons_zero, List.set_cons_succ]))
            refine Chain.grow hg (fun _ => .bool false) (fun _ _ => True) (fun _ _ _ h _ => h) (fun _ => by rfl) (fun t W hw hN K hK => ?_) ?_
            · go_simp; refine (rmay_at false HM.out).mono ?_; rintro e w9 ⟨rfl, rfl⟩; exact hK.out default _ (Grow.refl _) trivial
            simp only [Act.put, List.setIfInBounds_toArray, List.set_cons_zero, List.set_cons_succ]
            repeat (first | (refine Chain.skip hg (fun t => by rfl) ?_; simp only [Act.put, List.setIfInBounds_toArray, List.set_cons_zero, List.set_cons_succ]) | (refine Chain.pure hg (X := ?_) (fun t W hw hN => ⟨by rfl, ?_⟩) ?_; rotate_left; (focus (go_simp <;> with_reducible rfl)); simp only [Act.put, List.setIfInBounds_toArray, List.set_cons_zero, List.set_cons_succ]))
            refine Chain.done (fun t W hw hN => ?_)
            clear hN hg v1
            have hgW := GR0.out.trans hw
            go_wp2
            go_roundw
            case rel => exact ⟨2, by omega, by omega, rfl, N2, hgW⟩
            case measure => simp [intOf]
      · have g1 : decide ((1 : Int) ≤ (n : Int)) = false := by simp; omega
        have g2 : decide (1 ≤ n) = false := by simp; omega
        have hd := dec1_none (l := x :: r) (fun j hj => by
          by_cases hjk : j + 1 < 1
          · exact hno.out j hjk
          · exact hit_short hj (by rw [HLN.out]; omega))
        have GR0 := Lib.hid hg
        have z := d1_none hd
        have HZ := Lib.hid z
        clear hg hd z
        go_wp2
        go_ret2
        exact ⟨by rw [HZ.out.1, HZ.out.2]; rfl, GR0.out⟩
    | 2, _ =>
      rw [show ((2 : Nat) : Int) = 2 from rfl]
      by_cases hlen : 2 ≤ n
      · have g1 : decide ((2 : Int) ≤ (n : Int)) = true := by simp; omega
        have g2 : decide (2 ≤ n) = true := by simp; omega
        have GR0 := Lib.hid hg
        clear hg
        go_wp2
        go_loopw [5, 6] (fun c i wx => ∃ (j : Nat) (C : Int), 1 ≤ j ∧ j ≤ 2 ∧ i = .int .i64 (j : Int) ∧ c = .int .i64 C ∧ Hid (rv 1 x (r.take (j - 1)) = C) ∧ wr = wx) (fun _ i _ => 2 - (intOf i).toNat)
        case atStart => exact ⟨1, (x : Int) - 192, by omega, by omega, by first | rfl | trivial, by first | rfl | trivial, (show rv 1 x (r.take 0) = _ from rfl), by first | rfl | trivial⟩
        case round =>
        obtain ⟨j, C, hj1, hj, rfl, rfl, hC, rfl⟩ := hrel
        have hbd : -68157440 ≤ C ∧ C ≤ 68157440 := by
          rw [← hC.out]
          exact rv_bd hx (fun y hy => HB.out y (List.mem_cons_of_mem _ (List.mem_of_mem_take hy))) (by rw [List.length_take]; omega)
        obtain ⟨hb1, hb2⟩ := hbd
        by_cases hlt : j < 2
        · obtain ⟨y, hy⟩ : ∃ y, r[j - 1]? = some y := ⟨_, List.getElem?_eq_getElem (by have := HLN.out; rw [List.length_cons] at this; omega)⟩
          have hyb : y < 256 := HB.out y (List.mem_cons_of_mem _ (List.mem_of_getElem? hy))
          have hcy : wr.cell? ⟨b, off + j, none⟩ = some (.int .u8 (y : Int)) := by
            have h1 := HL.out.cells _ rfl j (.int .u8 (y : Int)) (by obtain ⟨i, rfl⟩ : ∃ i, j = i + 1 := ⟨j - 1, by omega⟩; simp at hy; simp [byt, hy])
            rw [add_none] at h1
            exact grow_cell h1 GR0.out
          have hs := rv_snoc (k := 1) (x := x) hy
          rw [show j - 1 + 1 = j by omega, hC.out] at hs
          have HS := Lib.hid hs
          clear hs hy
          go_wp2
          go_roundw
          case rel => exact ⟨j + 1, 64 * C + (y : Int) - 128, by omega, by omega, by go_num, by go_num, HS, by first | rfl | trivial⟩
          case measure => simp [intOf]; omega
        · obtain rfl : j = 2 := by omega
          rw [show ((2 : Nat) : Int) = 2 from rfl]
          have hv0 := rv_hit (k := 1) (x := x) (r := r) (by decide)
          rw [show r.take 1 = r.take (2 - 1) from rfl, hC.out] at hv0
          obtain ⟨p, hp⟩ : ∃ p, (x :: r).take 2 = p := ⟨_, rfl⟩
          have v1 : ∀ W : World, Grow wr W → (convert 23 9 (.slice (some ⟨b, off, none⟩) 2 cap)).run Tryd.prog W = .ok (.string (str p)) W := fun W h => by rw [← hp]; exact conv_bytes ((HL.out.below (GR0.out.trans h) (Nat.le_refl _)).takeb 2 hlen)
          have s1 : ((2 : Nat) : Int) ≤ (cap : Int) := by omega
          have s2 : 2 ≤ cap := by omega
          have s3 : decide ((2 : Int) ≤ (cap : Int)) = true := by simp; omega
          have s4 : decide (2 ≤ cap) = true := by simp; omega
          have s5 : 0 < cap := by omega
          have s6 : (2 : Int) ≤ (cap : Int) := by omega
          have w32 : wrap32 C = C := IntWalk.wrap32_in _ ⟨by omega, by omega⟩
          have v32 : IntKind.i32.wrap C = C := by rw [IntKind.wrap_i32]; omega
          have GR := Lib.hid (Grow.refl wr)
          have next : hit 1 (x :: r) = false → ∀ j, j + 1 < 3 → hit j (x :: r) = false := by
            intro h j hj
            by_cases hjk : j = 1
            · rw [hjk]; exact h
            · exact hno.out j (by omega)
          have NX := Lib.hid next
          have HV := Lib.hid hv0; have HP := Lib.hid hp
          clear next hv0 hlt hp
          by_cases hm : mayI C = true
          · have hC0 := (mayI_iff C).1 hm
            obtain ⟨c, hc⟩ := Int.eq_ofNat_of_zero_le hC0.1
            obtain ⟨q, hq⟩ : ∃ q, szN c = q := ⟨_, rfl⟩
            have HM := Lib.hid hm; have HCC := Lib.hid hc; have HQ := Lib.hid hq
            clear hm hC0 hc hq
            by_cases heq : one c = p
            · have hmc : mayI (c : Int) = true := by rw [← HCC.out]; exact HM.out
              have hh := rv_miss (k := 1) (by decide) hmc (by rw [HLN.out]; exact hlen) (heq.trans HP.out.symm)
              obtain ⟨c2, h1, h2, h3, h4, h5⟩ := HV.out hh
              obtain rfl : c2 = c := by have := HCC.out; rw [h1] at this; omega
              have hd := dec1_at (by decide) (fun j hj => hno.out j (by omega)) hh
              rw [h5] at hd
              have HD := Lib.hid hd
              have es : ((str (one c2)).toList == (str p).toList) = true := by rw [heq]; simp
              clear hmc hh h1 h2 h3 h4 h5 hd heq
              go_wp2_with fail
              refine Chain.start Nat (by kernel_rfl) (by kernel_rfl) (fun hg => ?_)
              repeat (first | (refine Chain.skip hg (fun t => by rfl) ?_; simp only [Act.put, List.setIfInBounds_toArray, List.set_cons_zero, List.set_cons_succ]) | (refine Chain.pure hg (X := ?_) (fun t W hw hN => ⟨by rfl, ?_⟩) ?_; rotate_left; (focus (go_simp <;> with_reducible rfl)); simp only [Act.put, List.setIfInBounds_toArray, List.set_cons_zero, List.set_cons_succ]))
              refine Chain.grow hg (fun _ => .bool true) (fun _ _ => True) (fun _ _ _ h _ => h) (fun _ => by rfl) (fun t W hw hN K hK => ?_) ?_
              · go_simp; refine (rmay_at true HM.out).mono ?_; rintro e w9 ⟨rfl, rfl⟩; exact hK.out default _ (Grow.refl _) trivial
              simp only [Act.put, List.setIfInBounds_toArray, List.set_cons_zero, List.set_cons_succ]
              repeat (first | (refine Chain.skip hg (fun t => by rfl) ?_; simp only [Act.put, List.setIfInBounds_toArray, List.set_cons_zero, List.set_cons_succ]) | (refine Chain.pure hg (X := ?_) (fun t W hw hN => ⟨by rfl, ?_⟩) ?_; rotate_left; (focus (go_simp <;> with_reducible rfl)); simp only [Act.put, List.setIfInBounds_toArray, List.set_cons_zero, List.set_cons_succ]))
              refine Chain.grow hg (fun s => .slice (some ⟨s, 0, none⟩) q q) (fun s V => Lies V 1 (some ⟨s, 0, none⟩) q q (byt (one c2))) (fun _ _ _ h k => h.below k (Nat.le_refl _)) (fun _ => by rfl) (fun t W hw hN K hK => ?_) ?_
              · go_simp; refine (rone_int HCC.out (by rw [← HCC.out]; exact HM.out) HQ.out).mono ?_; rintro e w3 ⟨g, rfl, L3, hg3⟩; exact hK.out g _ hg3 L3
              simp only [Act.put, List.setIfInBounds_toArray, List.set_cons_zero, List.set_cons_succ]
              refine Chain.pure hg (X := fun _ => .string (str (one c2))) (fun t W hw hN => ⟨by rfl, ?_⟩) ?_
              · have hc := hN.get 6 rfl (by kernel_rfl); have hv := conv_bytes hc; go_simp
              simp only [Act.put, List.setIfInBounds_toArray, List.set_cons_zero, List.set_cons_succ]
              repeat (first | (refine Chain.skip hg (fun t => by rfl) ?_; simp only [Act.put, List.setIfInBounds_toArray, List.set_cons_zero, List.set_cons_succ]) | (refine Chain.pure hg (X := ?_) (fun t W hw hN => ⟨by rfl, ?_⟩) ?_; rotate_left; (focus (go_simp <;> with_reducible rfl)); simp only [Act.put, List.setIfInBounds_toArray, List.set_cons_zero, List.set_cons_succ]))
              refine Chain.done (fun t W hw hN => ?_)
              clear hN hg v1
              have hgW := GR.out.trans hw

              go_wp2
              go_ret2
              refine ⟨?_, GR0.out.trans hgW⟩
              rw [HD.out.1, HD.out.2, HCC.out]
              rfl
            · have hnot : hit 1 (x :: r) = false := by
                cases hh : hit 1 (x :: r) with
                | false => rfl
                | true =>
                  obtain ⟨c2, h1, h2, h3, h4, h5⟩ := HV.out hh
                  obtain rfl : c2 = c := by have := HCC.out; rw [h1] at this; omega
                  exact absurd (h4.trans HP.out) heq
              have hmc : mayI (c : Int) = true := by rw [← HCC.out]; exact HM.out
              have es : ((str (one c)).toList == (str p).toList) = false := by rw [str_eq (one_bytes (may_le hmc)) (fun z hz => by rw [← HP.out] at hz; exact HB.out z (List.mem_of_mem_take hz))]; exact decide_eq_false heq
              have N2 := Lib.hid (NX.out hnot)
              clear hmc heq hnot
              go_wp2_with fail
              refine Chain.start Nat (by kernel_rfl) (by kernel_rfl) (fun hg => ?_)
              repeat (first | (refine Chain.skip hg (fun t => by rfl) ?_; simp only [Act.put, List.setIfInBounds_toArray, List.set_cons_zero, List.set_cons_succ]) | (refine Chain.pure hg (X := ?_) (fun t W hw hN => ⟨by rfl, ?_⟩) ?_; rotate_left; (focus (go_simp <;> with_reducible rfl)); simp only [Act.put, List.setIfInBounds_toArray, List.set_cons_zero, List.set_cons_succ]))
              refine Chain.grow hg (fun _ => .bool true) (fun _ _ => True) (fun _ _ _ h _ => h) (fun _ => by rfl) (fun t W hw hN K hK => ?_) ?_
              · go_simp; refine (rmay_at true HM.out).mono ?_; rintro e w9 ⟨rfl, rfl⟩; exact hK.out default _ (Grow.refl _) trivial
              simp only [Act.put, List.setIfInBounds_toArray, List.set_cons_zero, List.set_cons_succ]
              repeat (first | (refine Chain.skip hg (fun t => by rfl) ?_; simp only [Act.put, List.setIfInBounds_toArray, List.set_cons_zero, List.set_cons_succ]) | (refine Chain.pure hg (X := ?_) (fun t W hw hN => ⟨by rfl, ?_⟩) ?_; rotate_left; (focus (go_simp <;> with_reducible rfl)); simp only [Act.put, List.setIfInBounds_toArray, List.set_cons_zero, List.set_cons_succ]))
              refine Chain.grow hg (fun s => .slice (some ⟨s, 0, none⟩) q q) (fun s V => Lies V 1 (some ⟨s, 0, none⟩) q q (byt (one c))) (fun _ _ _ h k => h.below k (Nat.le_refl _)) (fun _ => by rfl) (fun t W hw hN K hK => ?_) ?_
              · go_simp; refine (rone_int HCC.out (by rw [← HCC.out]; exact HM.out) HQ.out).mono ?_; rintro e w3 ⟨g, rfl, L3, hg3⟩; exact hK.out g _ hg3 L3
              simp only [Act.put, List.setIfInBounds_toArray, List.set_cons_zero, List.set_cons_succ]
              refine Chain.pure hg (X := fun _ => .string (str (one c))) (fun t W hw hN => ⟨by rfl, ?_⟩) ?_
              · have hc := hN.get 6 rfl (by kernel_rfl); have hv := conv_bytes hc; go_simp
              simp only [Act.put, List.setIfInBounds_toArray, List.set_cons_zero, List.set_cons_succ]
              repeat (first | (refine Chain.skip hg (fun t => by rfl) ?_; simp only [Act.put, List.setIfInBounds_toArray, List.set_cons_zero, List.set_cons_succ]) | (refine Chain.pure hg (X := ?_) (fun t W hw hN => ⟨by rfl, ?_⟩) ?_; rotate_left; (focus (go_simp <;> with_reducible rfl)); simp only [Act.put, List.setIfInBounds_toArray, List.set_cons_zero, List.set_cons_succ]))
              refine Chain.done (fun t W hw hN => ?_)
              clear hN hg v1
              have hgW := GR.out.trans hw

              have hgW2 := GR0.out.trans hgW
              go_wp2
              go_roundw
              case rel => exact ⟨3, by omega, by omega, rfl, N2, hgW2⟩
              case measure => simp [intOf]
          · have hnot : hit 1 (x :: r) = false := by
              cases hh : hit 1 (x :: r) with
              | false => rfl
              | true =>
                obtain ⟨c2, h1, h2, h3, h4, h5⟩ := HV.out hh
                rw [h1] at hm
                exact absurd h2 hm
            have hmf : mayI C = false := by cases hh : mayI C with
              | false => rfl
              | true => exact absurd hh hm
            have HM := Lib.hid hmf
            have N2 := Lib.hid (NX.out hnot)
            clear hm hmf hnot
            go_wp2_with fail
            refine Chain.start Nat (by kernel_rfl) (by kernel_rfl) (fun hg => ?_)
            repeat (first | (refine Chain.skip hg (fun t => by rfl) ?_; simp only [Act.put, List.setIfInBounds_toArray, List.set_cons_zero, List.set_cons_succ]) | (refine Chain.pure hg (X := ?_) (fun t W hw hN => ⟨by rfl, ?_⟩) ?_; rotate_left; (focus (go_simp <;> with_reducible rfl)); simp only [Act.put, List.setIfInBounds_toArray, List.set_cons_zero, List.set_cons_succ]))
            refine Chain.grow hg (fun _ => .bool false) (fun _ _ => True) (fun _ _ _ h _ => h) (fun _ => by rfl) (fun t W hw hN K hK => ?_) ?_
            · go_simp; refine (rmay_at false HM.out).mono ?_; rintro e w9 ⟨rfl, rfl⟩; exact hK.out default _ (Grow.refl _) trivial
            simp only [Act.put, List.setIfInBounds_toArray, List.set_cons_zero, List.set_cons_succ]
            repeat (first | (refine Chain.skip hg (fun t => by rfl) ?_; simp only [Act.put, List.setIfInBounds_toArray, List.set_cons_zero, List.set_cons_succ]) | (refine Chain.pure hg (X := ?_) (fun t W hw hN => ⟨by rfl, ?_⟩) ?_; rotate_left; (focus (go_simp <;> with_reducible rfl)); simp only [Act.put, List.setIfInBounds_toArray, List.set_cons_zero, List.set_cons_succ]))
            refine Chain.done (fun t W hw hN => ?_)
            clear hN hg v1
            have hgW := GR0.out.trans hw
            go_wp2
            go_roundw
            case rel => exact ⟨3, by omega, by omega, rfl, N2, hgW⟩
            case measure => simp [intOf]
      · have g1 : decide ((2 : Int) ≤ (n : Int)) = false := by simp; omega
        have g2 : decide (2 ≤ n) = false := by simp; omega
        have hd := dec1_none (l := x :: r) (fun j hj => by
          by_cases hjk : j + 1 < 2
          · exact hno.out j hjk
          · exact hit_short hj (by rw [HLN.out]; omega))
        have GR0 := Lib.hid hg
        have z := d1_none hd
        have HZ := Lib.hid z
        clear hg hd z
        go_wp2
        go_ret2
        exact ⟨by rw [HZ.out.1, HZ.out.2]; rfl, GR0.out⟩
    | 3, _ =>
      rw [show ((3 : Nat) : Int) = 3 from rfl]
      by_cases hlen : 3 ≤ n
      · have g1 : decide ((3 : Int) ≤ (n : Int)) = true := by simp; omega
        have g2 : decide (3 ≤ n) = true := by simp; omega
        have GR0 := Lib.hid hg
        clear hg
        go_wp2
        go_loopw [5, 6] (fun c i wx => ∃ (j : Nat) (C : Int), 1 ≤ j ∧ j ≤ 3 ∧ i = .int .i64 (j : Int) ∧ c = .int .i64 C ∧ Hid (rv 2 x (r.take (j - 1)) = C) ∧ wr = wx) (fun _ i _ => 3 - (intOf i).toNat)
        case atStart => exact ⟨1, (x : Int) - 224, by omega, by omega, by first | rfl | trivial, by first | rfl | trivial, (show rv 2 x (r.take 0) = _ from rfl), by first | rfl | trivial⟩
        case round =>
        obtain ⟨j, C, hj1, hj, rfl, rfl, hC, rfl⟩ := hrel
        have hbd : -68157440 ≤ C ∧ C ≤ 68157440 := by
          rw [← hC.out]
          exact rv_bd hx (fun y hy => HB.out y (List.mem_cons_of_mem _ (List.mem_of_mem_take hy))) (by rw [List.length_take]; omega)
        obtain ⟨hb1, hb2⟩ := hbd
        by_cases hlt : j < 3
        · obtain ⟨y, hy⟩ : ∃ y, r[j - 1]? = some y := ⟨_, List.getElem?_eq_getElem (by have := HLN.out; rw [List.length_cons] at this; omega)⟩
          have hyb : y < 256 := HB.out y (List.mem_cons_of_mem _ (List.mem_of_getElem? hy))
          have hcy : wr.cell? ⟨b, off + j, none⟩ = some (.int .u8 (y : Int)) := by
            have h1 := HL.out.cells _ rfl j (.int .u8 (y : Int)) (by obtain ⟨i, rfl⟩ : ∃ i, j = i + 1 := ⟨j - 1, by omega⟩; simp at hy; simp [byt, hy])
            rw [add_none] at h1
            exact grow_cell h1 GR0.out
          have hs := rv_snoc (k := 2) (x := x) hy
          rw [show j - 1 + 1 = j by omega, hC.out] at hs
          have HS := Lib.hid hs
          clear hs hy
          go_wp2
          go_roundw
          case rel => exact ⟨j + 1, 64 * C + (y : Int) - 128, by omega, by omega, by go_num, by go_num, HS, by first | rfl | trivial⟩
          case measure => simp [intOf]; omega
        · obtain rfl : j = 3 := by omega
          rw [show ((3 : Nat) : Int) = 3 from rfl]
          have hv0 := rv_hit (k := 2) (x := x) (r := r) (by decide)
          rw [show r.take 2 = r.take (3 - 1) from rfl, hC.out] at hv0
          obtain ⟨p, hp⟩ : ∃ p, (x :: r).take 3 = p := ⟨_, rfl⟩
          have v1 : ∀ W : World, Grow wr W → (convert 23 9 (.slice (some ⟨b, off, none⟩) 3 cap)).run Tryd.prog W = .ok (.string (str p)) W := fun W h => by rw [← hp]; exact conv_bytes ((HL.out.below (GR0.out.trans h) (Nat.le_refl _)).takeb 3 hlen)
          have s1 : ((3 : Nat) : Int) ≤ (cap : Int) := by omega
          have s2 : 3 ≤ cap := by omega
          have s3 : decide ((3 : Int) ≤ (cap : Int)) = true := by simp; omega
          have s4 : decide (3 ≤ cap) = true := by simp; omega
          have s5 : 0 < cap := by omega
          have s6 : (3 : Int) ≤ (cap : Int) := by omega
          have w32 : wrap32 C = C := IntWalk.wrap32_in _ ⟨by omega, by omega⟩
          have v32 : IntKind.i32.wrap C = C := by rw [IntKind.wrap_i32]; omega
          have GR := Lib.hid (Grow.refl wr)
          have next : hit 2 (x :: r) = false → ∀ j, j + 1 < 4 → hit j (x :: r) = false := by
            intro h j hj
            by_cases hjk : j = 2
            · rw [hjk]; exact h
            · exact hno.out j (by omega)
          have NX := Lib.hid next
          have HV := Lib.hid hv0; have HP := Lib.hid hp
          clear next hv0 hlt hp
          by_cases hm : mayI C = true
          · have hC0 := (mayI_iff C).1 hm
            obtain ⟨c, hc⟩ := Int.eq_ofNat_of_zero_le hC0.1
            obtain ⟨q, hq⟩ : ∃ q, szN c = q := ⟨_, rfl⟩
            have HM := Lib.hid hm; have HCC := Lib.hid hc; have HQ := Lib.hid hq
            clear hm hC0 hc hq
            by_cases heq : one c = p
            · have hmc : mayI (c : Int) = true := by rw [← HCC.out]; exact HM.out
              have hh := rv_miss (k := 2) (by decide) hmc (by rw [HLN.out]; exact hlen) (heq.trans HP.out.symm)
              obtain ⟨c2, h1, h2, h3, h4, h5⟩ := HV.out hh
              obtain rfl : c2 = c := by have := HCC.out; rw [h1] at this; omega
              have hd := dec1_at (by decide) (fun j hj => hno.out j (by omega)) hh
              rw [h5] at hd
              have HD := Lib.hid hd
              have es : ((str (one c2)).toList == (str p).toList) = true := by rw [heq]; simp
              clear hmc hh h1 h2 h3 h4 h5 hd heq
              go_wp2_with fail
              refine Chain.start Nat (by kernel_rfl) (by kernel_rfl) (fun hg => ?_)
              repeat (first | (refine Chain.skip hg (fun t => by rfl) ?_; simp only [Act.put, List.setIfInBounds_toArray, List.set_cons_zero, List.set_cons_succ]) | (refine Chain.pure hg (X := ?_) (fun t W hw hN => ⟨by rfl, ?_⟩) ?_; rotate_left; (focus (go_simp <;> with_reducible rfl)); simp only [Act.put, List.setIfInBounds_toArray, List.set_cons_zero, List.set_cons_succ]))
              refine Chain.grow hg (fun _ => .bool true) (fun _ _ => True) (fun _ _ _ h _ => h) (fun _ => by rfl) (fun t W hw hN K hK => ?_) ?_
              · go_simp; refine (rmay_at true HM.out).mono ?_; rintro e w9 ⟨rfl, rfl⟩; exact hK.out default _ (Grow.refl _) trivial
              simp only [Act.put, List.setIfInBounds_toArray, List.set_cons_zero, List.set_cons_succ]
              repeat (first | (refine Chain.skip hg (fun t => by rfl) ?_; simp only [Act.put, List.setIfInBounds_toArray, List.set_cons_zero, List.set_cons_succ]) | (refine Chain.pure hg (X := ?_) (fun t W hw hN => ⟨by rfl, ?_⟩) ?_; rotate_left; (focus (go_simp <;> with_reducible rfl)); simp only [Act.put, List.setIfInBounds_toArray, List.set_cons_zero, List.set_cons_succ]))
              refine Chain.grow hg (fun s => .slice (some ⟨s, 0, none⟩) q q) (fun s V => Lies V 1 (some ⟨s, 0, none⟩) q q (byt (one c2))) (fun _ _ _ h k => h.below k (Nat.le_refl _)) (fun _ => by rfl) (fun t W hw hN K hK => ?_) ?_
              · go_simp; refine (rone_int HCC.out (by rw [← HCC.out]; exact HM.out) HQ.out).mono ?_; rintro e w3 ⟨g, rfl, L3, hg3⟩; exact hK.out g _ hg3 L3
              simp only [Act.put, List.setIfInBounds_toArray, List.set_cons_zero, List.set_cons_succ]
              refine Chain.pure hg (X := fun _ => .string (str (one c2))) (fun t W hw hN => ⟨by rfl, ?_⟩) ?_
              · have hc := hN.get 6 rfl (by kernel_rfl); have hv := conv_bytes hc; go_simp
              simp only [Act.put, List.setIfInBounds_toArray, List.set_cons_zero, List.set_cons_succ]
              repeat (first | (refine Chain.skip hg (fun t => by rfl) ?_; simp only [Act.put, List.setIfInBounds_toArray, List.set_cons_zero, List.set_cons_succ]) | (refine Chain.pure hg (X := ?_) (fun t W hw hN => ⟨by rfl, ?_⟩) ?_; rotate_left; (focus (go_simp <;> with_reducible rfl)); simp only [Act.put, List.setIfInBounds_toArray, List.set_cons_zero, List.set_cons_succ]))
              refine Chain.done (fun t W hw hN => ?_)
              clear hN hg v1
              have hgW := GR.out.trans hw

              go_wp2
              go_ret2
              refine ⟨?_, GR0.out.trans hgW⟩
              rw [HD.out.1, HD.out.2, HCC.out]
              rfl
            · have hnot : hit 2 (x :: r) = false := by
                cases hh : hit 2 (x :: r) with
                | false => rfl
                | true =>
                  obtain ⟨c2, h1, h2, h3, h4, h5⟩ := HV.out hh
                  obtain rfl : c2 = c := by have := HCC.out; rw [h1] at this; omega
                  exact absurd (h4.trans HP.out) heq
              have hmc : mayI (c : Int) = true := by rw [← HCC.out]; exact HM.out
              have es : ((str (one c)).toList == (str p).toList) = false := by rw [str_eq (one_bytes (may_le hmc)) (fun z hz => by rw [← HP.out] at hz; exact HB.out z (List.mem_of_mem_take hz))]; exact decide_eq_false heq
              have N2 := Lib.hid (NX.out hnot)
              clear hmc heq hnot
              go_wp2_with fail
              refine Chain.start Nat (by kernel_rfl) (by kernel_rfl) (fun hg => ?_)
              repeat (first | (refine Chain.skip hg (fun t => by rfl) ?_; simp only [Act.put, List.setIfInBounds_toArray, List.set_cons_zero, List.set_cons_succ]) | (refine Chain.pure hg (X := ?_) (fun t W hw hN => ⟨by rfl, ?_⟩) ?_; rotate_left; (focus (go_simp <;> with_reducible rfl)); simp only [Act.put, List.setIfInBounds_toArray, List.set_cons_zero, List.set_cons_succ]))
              refine Chain.grow hg (fun _ => .bool true) (fun _ _ => True) (fun _ _ _ h _ => h) (fun _ => by rfl) (fun t W hw hN K hK => ?_) ?_
              · go_simp; refine (rmay_at true HM.out).mono ?_; rintro e w9 ⟨rfl, rfl⟩; exact hK.out default _ (Grow.refl _) trivial
              simp only [Act.put, List.setIfInBounds_toArray, List.set_cons_zero, List.set_cons_succ]
              repeat (first | (refine Chain.skip hg (fun t => by rfl) ?_; simp only [Act.put, List.setIfInBounds_toArray, List.set_cons_zero, List.set_cons_succ]) | (refine Chain.pure hg (X := ?_) (fun t W hw hN => ⟨by rfl, ?_⟩) ?_; rotate_left; (focus (go_simp <;> with_reducible rfl)); simp only [Act.put, List.setIfInBounds_toArray, List.set_cons_zero, List.set_cons_succ]))
              refine Chain.grow hg (fun s => .slice (some ⟨s, 0, none⟩) q q) (fun s V => Lies V 1 (some ⟨s, 0, none⟩) q q (byt (one c))) (fun _ _ _ h k => h.below k (Nat.le_refl _)) (fun _ => by rfl) (fun t W hw hN K hK => ?_) ?_
              · go_simp; refine (rone_int HCC.out (by rw [← HCC.out]; exact HM.out) HQ.out).mono ?_; rintro e w3 ⟨g, rfl, L3, hg3⟩; exact hK.out g _ hg3 L3
              simp only [Act.put, List.setIfInBounds_toArray, List.set_cons_zero, List.set_cons_succ]
              refine Chain.pure hg (X := fun _ => .string (str (one c))) (fun t W hw hN => ⟨by rfl, ?_⟩) ?_
              · have hc := hN.get 6 rfl (by kernel_rfl); have hv := conv_bytes hc; go_simp
              simp only [Act.put, List.setIfInBounds_toArray, List.set_cons_zero, List.set_cons_succ]
              repeat (first | (refine Chain.skip hg (fun t => by rfl) ?_; simp only [Act.put, List.setIfInBounds_toArray, List.set_cons_zero, List.set_cons_succ]) | (refine Chain.pure hg (X := ?_) (fun t W hw hN => ⟨by rfl, ?_⟩) ?_; rotate_left; (focus (go_simp <;> with_reducible rfl)); simp only [Act.put, List.setIfInBounds_toArray, List.set_cons_zero, List.set_cons_succ]))
              refine Chain.done (fun t W hw hN => ?_)
              clear hN hg v1
              have hgW := GR.out.trans hw

              have hgW2 := GR0.out.trans hgW
              go_wp2
              go_roundw
              case rel => exact ⟨4, by omega, by omega, rfl, N2, hgW2⟩
              case measure => simp [intOf]
          · have hnot : hit 2 (x :: r) = false := by
              cases hh : hit 2 (x :: r) with
              | false => rfl
              | true =>
                obtain ⟨c2, h1, h2, h3, h4, h5⟩ := HV.out hh
                rw [h1] at hm
                exact absurd h2 hm
            have hmf : mayI C = false := by cases hh : mayI C with
              | false => rfl
              | true => exact absurd hh hm
            have HM := Lib.hid hmf
            have N2 := Lib.hid (NX.out hnot)
            clear hm hmf hnot
            go_wp2_with fail
            refine Chain.start Nat (by kernel_rfl) (by kernel_rfl) (fun hg => ?_)
            repeat (first | (refine Chain.skip hg (fun t => by rfl) ?_; simp only [Act.put, List.setIfInBounds_toArray, List.set_cons_zero, List.set_cons_succ]) | (refine Chain.pure hg (X := ?_) (fun t W hw hN => ⟨by rfl, ?_⟩) ?_; rotate_left; (focus (go_simp <;> with_reducible rfl)); simp only [Act.put, List.setIfInBounds_toArray, List.set_cons_zero, List.set_cons_succ]))
            refine Chain.grow hg (fun _ => .bool false) (fun _ _ => True) (fun _ _ _ h _ => h) (fun _ => by rfl) (fun t W hw hN K hK => ?_) ?_
            · go_simp; refine (rmay_at false HM.out).mono ?_; rintro e w9 ⟨rfl, rfl⟩; exact hK.out default _ (Grow.refl _) trivial
            simp only [Act.put, List.setIfInBounds_toArray, List.set_cons_zero, List.set_cons_succ]
            repeat (first | (refine Chain.skip hg (fun t => by rfl) ?_; simp only [Act.put, List.setIfInBounds_toArray, List.set_cons_zero, List.set_cons_succ]) | (refine Chain.pure hg (X := ?_) (fun t W hw hN => ⟨by rfl, ?_⟩) ?_; rotate_left; (focus (go_simp <;> with_reducible rfl)); simp only [Act.put, List.setIfInBounds_toArray, List.set_cons_zero, List.set_cons_succ]))
            refine Chain.done (fun t W hw hN => ?_)
            clear hN hg v1
            have hgW := GR0.out.trans hw
            go_wp2
            go_roundw
            case rel => exact ⟨4, by omega, by omega, rfl, N2, hgW⟩
            case measure => simp [intOf]
      · have g1 : decide ((3 : Int) ≤ (n : Int)) = false := by simp; omega
        have g2 : decide (3 ≤ n) = false := by simp; omega
        have hd := dec1_none (l := x :: r) (fun j hj => by
          by_cases hjk : j + 1 < 3
          · exact hno.out j hjk
          · exact hit_short hj (by rw [HLN.out]; omega))
        have GR0 := Lib.hid hg
        have z := d1_none hd
        have HZ := Lib.hid z
        clear hg hd z
        go_wp2
        go_ret2
        exact ⟨by rw [HZ.out.1, HZ.out.2]; rfl, GR0.out⟩
    | 4, _ =>
      rw [show ((4 : Nat) : Int) = 4 from rfl]
      by_cases hlen : 4 ≤ n
      · have g1 : decide ((4 : Int) ≤ (n : Int)) = true := by simp; omega
        have g2 : decide (4 ≤ n) = true := by simp; omega
        have GR0 := Lib.hid hg
        clear hg
        go_wp2
        go_loopw [5, 6] (fun c i wx => ∃ (j : Nat) (C : Int), 1 ≤ j ∧ j ≤ 4 ∧ i = .int .i64 (j : Int) ∧ c = .int .i64 C ∧ Hid (rv 3 x (r.take (j - 1)) = C) ∧ wr = wx) (fun _ i _ => 4 - (intOf i).toNat)
        case atStart => exact ⟨1, (x : Int) - 240, by omega, by omega, by first | rfl | trivial, by first | rfl | trivial, (show rv 3 x (r.take 0) = _ from rfl), by first | rfl | trivial⟩
        case round =>
        obtain ⟨j, C, hj1, hj, rfl, rfl, hC, rfl⟩ := hrel
        have hbd : -68157440 ≤ C ∧ C ≤ 68157440 := by
          rw [← hC.out]
          exact rv_bd hx (fun y hy => HB.out y (List.mem_cons_of_mem _ (List.mem_of_mem_take hy))) (by rw [List.length_take]; omega)
        obtain ⟨hb1, hb2⟩ := hbd
        by_cases hlt : j < 4
        · obtain ⟨y, hy⟩ : ∃ y, r[j - 1]? = some y := ⟨_, List.getElem?_eq_getElem (by have := HLN.out; rw [List.length_cons] at this; omega)⟩
          have hyb : y < 256 := HB.out y (List.mem_cons_of_mem _ (List.mem_of_getElem? hy))
          have hcy : wr.cell? ⟨b, off + j, none⟩ = some (.int .u8 (y : Int)) := by
            have h1 := HL.out.cells _ rfl j (.int .u8 (y : Int)) (by obtain ⟨i, rfl⟩ : ∃ i, j = i + 1 := ⟨j - 1, by omega⟩; simp at hy; simp [byt, hy])
            rw [add_none] at h1
            exact grow_cell h1 GR0.out
          have hs := rv_snoc (k := 3) (x := x) hy
          rw [show j - 1 + 1 = j by omega, hC.out] at hs
          have HS := Lib.hid hs
          clear hs hy
          go_wp2
          go_roundw
          case rel => exact ⟨j + 1, 64 * C + (y : Int) - 128, by omega, by omega, by go_num, by go_num, HS, by first | rfl | trivial⟩
          case measure => simp [intOf]; omega
        · obtain rfl : j = 4 := by omega
          rw [show ((4 : Nat) : Int) = 4 from rfl]
          have hv0 := rv_hit (k := 3) (x := x) (r := r) (by decide)
          rw [show r.take 3 = r.take (4 - 1) from rfl, hC.out] at hv0
          obtain ⟨p, hp⟩ : ∃ p, (x :: r).take 4 = p := ⟨_, rfl⟩
          have v1 : ∀ W : World, Grow wr W → (convert 23 9 (.slice (some ⟨b, off, none⟩) 4 cap)).run Tryd.prog W = .ok (.string (str p)) W := fun W h => by rw [← hp]; exact conv_bytes ((HL.out.below (GR0.out.trans h) (Nat.le_refl _)).takeb 4 hlen)
          have s1 : ((4 : Nat) : Int) ≤ (cap : Int) := by omega
          have s2 : 4 ≤ cap := by omega
          have s3 : decide ((4 : Int) ≤ (cap : Int)) = true := by simp; omega
          have s4 : decide (4 ≤ cap) = true := by simp; omega
          have s5 : 0 < cap := by omega
          have s6 : (4 : Int) ≤ (cap : Int) := by omega
          have w32 : wrap32 C = C := IntWalk.wrap32_in _ ⟨by omega, by omega⟩
          have v32 : IntKind.i32.wrap C = C := by rw [IntKind.wrap_i32]; omega
          have GR := Lib.hid (Grow.refl wr)
          have next : hit 3 (x :: r) = false → ∀ j, j + 1 < 5 → hit j (x :: r) = false := by
            intro h j hj
            by_cases hjk : j = 3
            · rw [hjk]; exact h
            · exact hno.out j (by omega)
          have NX := Lib.hid next
          have HV := Lib.hid hv0; have HP := Lib.hid hp
          clear next hv0 hlt hp
          by_cases hm : mayI C = true
          · have hC0 := (mayI_iff C).1 hm
            obtain ⟨c, hc⟩ := Int.eq_ofNat_of_zero_le hC0.1
            obtain ⟨q, hq⟩ : ∃ q, szN c = q := ⟨_, rfl⟩
            have HM := Lib.hid hm; have HCC := Lib.hid hc; have HQ := Lib.hid hq
            clear hm hC0 hc hq
            by_cases heq : one c = p
            · have hmc : mayI (c : Int) = true := by rw [← HCC.out]; exact HM.out
              have hh := rv_miss (k := 3) (by decide) hmc (by rw [HLN.out]; exact hlen) (heq.trans HP.out.symm)
              obtain ⟨c2, h1, h2, h3, h4, h5⟩ := HV.out hh
              obtain rfl : c2 = c := by have := HCC.out; rw [h1] at this; omega
              have hd := dec1_at (by decide) (fun j hj => hno.out j (by omega)) hh
              rw [h5] at hd
              have HD := Lib.hid hd
              have es : ((str (one c2)).toList == (str p).toList) = true := by rw [heq]; simp
              clear hmc hh h1 h2 h3 h4 h5 hd heq
              go_wp2_with fail
              refine Chain.start Nat (by kernel_rfl) (by kernel_rfl) (fun hg => ?_)
              repeat (first | (refine Chain.skip hg (fun t => by rfl) ?_; simp only [Act.put, List.setIfInBounds_toArray, List.set_cons_zero, List.set_cons_succ]) | (refine Chain.pure hg (X := ?_) (fun t W hw hN => ⟨by rfl, ?_⟩) ?_; rotate_left; (focus (go_simp <;> with_reducible rfl)); simp only [Act.put, List.setIfInBounds_toArray, List.set_cons_zero, List.set_cons_succ]))
              refine Chain.grow hg (fun _ => .bool true) (fun _ _ => True) (fun _ _ _ h _ => h) (fun _ => by rfl) (fun t W hw hN K hK => ?_) ?_
              · go_simp; refine (rmay_at true HM.out).mono ?_; rintro e w9 ⟨rfl, rfl⟩; exact hK.out default _ (Grow.refl _) trivial
              simp only [Act.put, List.setIfInBounds_toArray, List.set_cons_zero, List.set_cons_succ]
              repeat (first | (refine Chain.skip hg (fun t => by rfl) ?_; simp only [Act.put, List.setIfInBounds_toArray, List.set_cons_zero, List.set_cons_succ]) | (refine Chain.pure hg (X := ?_) (fun t W hw hN => ⟨by rfl, ?_⟩) ?_; rotate_left; (focus (go_simp <;> with_reducible rfl)); simp only [Act.put, List.setIfInBounds_toArray, List.set_cons_zero, List.set_cons_succ]))
              refine Chain.grow hg (fun s => .slice (some ⟨s, 0, none⟩) q q) (fun s V => Lies V 1 (some ⟨s, 0, none⟩) q q (byt (one c2))) (fun _ _ _ h k => h.below k (Nat.le_refl _)) (fun _ => by rfl) (fun t W hw hN K hK => ?_) ?_
              · go_simp; refine (rone_int HCC.out (by rw [← HCC.out]; exact HM.out) HQ.out).mono ?_; rintro e w3 ⟨g, rfl, L3, hg3⟩; exact hK.out g _ hg3 L3
              simp only [Act.put, List.setIfInBounds_toArray, List.set_cons_zero, List.set_cons_succ]
              refine Chain.pure hg (X := fun _ => .string (str (one c2))) (fun t W hw hN => ⟨by rfl, ?_⟩) ?_
              · have hc := hN.get 6 rfl (by kernel_rfl); have hv := conv_bytes hc; go_simp
              simp only [Act.put, List.setIfInBounds_toArray, List.set_cons_zero, List.set_cons_succ]
              repeat (first | (refine Chain.skip hg (fun t => by rfl) ?_; simp only [Act.put, List.setIfInBounds_toArray, List.set_cons_zero, List.set_cons_succ]) | (refine Chain.pure hg (X := ?_) (fun t W hw hN => ⟨by rfl, ?_⟩) ?_; rotate_left; (focus (go_simp <;> with_reducible rfl)); simp only [Act.put, List.setIfInBounds_toArray, List.set_cons_zero, List.set_cons_succ]))
              refine Chain.done (fun t W hw hN => ?_)
              clear hN hg v1
              have hgW := GR.out.trans hw

              go_wp2
              go_ret2
              refine ⟨?_, GR0.out.trans hgW⟩
              rw [HD.out.1, HD.out.2, HCC.out]
              rfl
            · have hnot : hit 3 (x :: r) = false := by
                cases hh : hit 3 (x :: r) with
                | false => rfl
                | true =>
                  obtain ⟨c2, h1, h2, h3, h4, h5⟩ := HV.out hh
                  obtain rfl : c2 = c := by have := HCC.out; rw [h1] at this; omega
                  exact absurd (h4.trans HP.out) heq
              have hmc : mayI (c : Int) = true := by rw [← HCC.out]; exact HM.out
              have es : ((str (one c)).toList == (str p).toList) = false := by rw [str_eq (one_bytes (may_le hmc)) (fun z hz => by rw [← HP.out] at hz; exact HB.out z (List.mem_of_mem_take hz))]; exact decide_eq_false heq
              have N2 := Lib.hid (NX.out hnot)
              clear hmc heq hnot
              go_wp2_with fail
              refine Chain.start Nat (by kernel_rfl) (by kernel_rfl) (fun hg => ?_)
              repeat (first | (refine Chain.skip hg (fun t => by rfl) ?_; simp only [Act.put, List.setIfInBounds_toArray, List.set_cons_zero, List.set_cons_succ]) | (refine Chain.pure hg (X := ?_) (fun t W hw hN => ⟨by rfl, ?_⟩) ?_; rotate_left; (focus (go_simp <;> with_reducible rfl)); simp only [Act.put, List.setIfInBounds_toArray, List.set_cons_zero, List.set_cons_succ]))
              refine Chain.grow hg (fun _ => .bool true) (fun _ _ => True) (fun _ _ _ h _ => h) (fun _ => by rfl) (fun t W hw hN K hK => ?_) ?_
              · go_simp; refine (rmay_at true HM.out).mono ?_; rintro e w9 ⟨rfl, rfl⟩; exact hK.out default _ (Grow.refl _) trivial
              simp only [Act.put, List.setIfInBounds_toArray, List.set_cons_zero, List.set_cons_succ]
              repeat (first | (refine Chain.skip hg (fun t => by rfl) ?_; simp only [Act.put, List.setIfInBounds_toArray, List.set_cons_zero, List.set_cons_succ]) | (refine Chain.pure hg (X := ?_) (fun t W hw hN => ⟨by rfl, ?_⟩) ?_; rotate_left; (focus (go_simp <;> with_reducible rfl)); simp only [Act.put, List.setIfInBounds_toArray, List.set_cons_zero, List.set_cons_succ]))
              refine Chain.grow hg (fun s => .slice (some ⟨s, 0, none⟩) q q) (fun s V => Lies V 1 (some ⟨s, 0, none⟩) q q (byt (one c))) (fun _ _ _ h k => h.below k (Nat.le_refl _)) (fun _ => by rfl) (fun t W hw hN K hK => ?_) ?_
              · go_simp; refine (rone_int HCC.out (by rw [← HCC.out]; exact HM.out) HQ.out).mono ?_; rintro e w3 ⟨g, rfl, L3, hg3⟩; exact hK.out g _ hg3 L3
              simp only [Act.put, List.setIfInBounds_toArray, List.set_cons_zero, List.set_cons_succ]
              refine Chain.pure hg (X := fun _ => .string (str (one c))) (fun t W hw hN => ⟨by rfl, ?_⟩) ?_
              · have hc := hN.get 6 rfl (by kernel_rfl); have hv := conv_bytes hc; go_simp
              simp only [Act.put, List.setIfInBounds_toArray, List.set_cons_zero, List.set_cons_succ]
              repeat (first | (refine Chain.skip hg (fun t => by rfl) ?_; simp only [Act.put, List.setIfInBounds_toArray, List.set_cons_zero, List.set_cons_succ]) | (refine Chain.pure hg (X := ?_) (fun t W hw hN => ⟨by rfl, ?_⟩) ?_; rotate_left; (focus (go_simp <;> with_reducible rfl)); simp only [Act.put, List.setIfInBounds_toArray, List.set_cons_zero, List.set_cons_succ]))
              refine Chain.done (fun t W hw hN => ?_)
              clear hN hg v1
              have hgW := GR.out.trans hw

              have hgW2 := GR0.out.trans hgW
              go_wp2
              go_roundw
              case rel => exact ⟨5, by omega, by omega, rfl, N2, hgW2⟩
              case measure => simp [intOf]
          · have hnot : hit 3 (x :: r) = false := by
              cases hh : hit 3 (x :: r) with
              | false => rfl
              | true =>
                obtain ⟨c2, h1, h2, h3, h4, h5⟩ := HV.out hh
                rw [h1] at hm
                exact absurd h2 hm
            have hmf : mayI C = false := by cases hh : mayI C with
              | false => rfl
              | true => exact absurd hh hm
            have HM := Lib.hid hmf
            have N2 := Lib.hid (NX.out hnot)
            clear hm hmf hnot
            go_wp2_with fail
            refine Chain.start Nat (by kernel_rfl) (by kernel_rfl) (fun hg => ?_)
            repeat (first | (refine Chain.skip hg (fun t => by rfl) ?_; simp only [Act.put, List.setIfInBounds_toArray, List.set_cons_zero, List.set_cons_succ]) | (refine Chain.pure hg (X := ?_) (fun t W hw hN => ⟨by rfl, ?_⟩) ?_; rotate_left; (focus (go_simp <;> with_reducible rfl)); simp only [Act.put, List.setIfInBounds_toArray, List.set_cons_zero, List.set_cons_succ]))
            refine Chain.grow hg (fun _ => .bool false) (fun _ _ => True) (fun _ _ _ h _ => h) (fun _ => by rfl) (fun t W hw hN K hK => ?_) ?_
            · go_simp; refine (rmay_at false HM.out).mono ?_; rintro e w9 ⟨rfl, rfl⟩; exact hK.out default _ (Grow.refl _) trivial
            simp only [Act.put, List.setIfInBounds_toArray, List.set_cons_zero, List.set_cons_succ]
            repeat (first | (refine Chain.skip hg (fun t => by rfl) ?_; simp only [Act.put, List.setIfInBounds_toArray, List.set_cons_zero, List.set_cons_succ]) | (refine Chain.pure hg (X := ?_) (fun t W hw hN => ⟨by rfl, ?_⟩) ?_; rotate_left; (focus (go_simp <;> with_reducible rfl)); simp only [Act.put, List.setIfInBounds_toArray, List.set_cons_zero, List.set_cons_succ]))
            refine Chain.done (fun t W hw hN => ?_)
            clear hN hg v1
            have hgW := GR0.out.trans hw
            go_wp2
            go_roundw
            case rel => exact ⟨5, by omega, by omega, rfl, N2, hgW⟩
            case measure => simp [intOf]
      · have g1 : decide ((4 : Int) ≤ (n : Int)) = false := by simp; omega
        have g2 : decide (4 ≤ n) = false := by simp; omega
        have hd := dec1_none (l := x :: r) (fun j hj => by
          by_cases hjk : j + 1 < 4
          · exact hno.out j hjk
          · exact hit_short hj (by rw [HLN.out]; omega))
        have GR0 := Lib.hid hg
        have z := d1_none hd
        have HZ := Lib.hid z
        clear hg hd z
        go_wp2
        go_ret2
        exact ⟨by rw [HZ.out.1, HZ.out.2]; rfl, GR0.out⟩
    | 5, _ =>
      rw [show ((5 : Nat) : Int) = 5 from rfl]
      have hd := dec1_none (l := x :: r) (fun j hj => hno.out j (by omega))
      have GR0 := Lib.hid hg
      have z := d1_none hd
      have HZ := Lib.hid z
      clear hg hd z
      go_wp2
      go_ret2
      exact ⟨by rw [HZ.out.1, HZ.out.2]; rfl, GR0.out⟩
    | k + 6, _ => omega
end Go.Proofs.YtbphdojjddnljaaDoor


