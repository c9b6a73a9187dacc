/-
  edit: the walk of EditBack.
-/
import Derived.Test.YtfpbmpgdpnpdjaaRow
import Derived.Test.YtfpbmpgdpnpdjaaWake
namespace Go.Proofs.Ytfpbmpgdpnpdjaa
open Go.RowKit
set_option linter.unusedSimpArgs false

theorem Lies.takeU {w : World} {A : Option Addr} {n c : Nat} {us : List U} (h : Lies w 5 A n c (uns us)) (m : Nat) (hm : m ≤ n) : Lies w 5 A m c (uns (us.take m)) := by
  have hl := h.uns_len
  have hle := h.le
  refine ⟨by rw [Proofs.Ytfpbmpgdpnpdjaa.uns_len, List.length_take]; congr 1; omega, h.nilc, by omega, h.big, fun a ha j u hu => h.cells a ha j u ?_⟩
  have e : uns us = uns (us.take m) ++ uns (us.drop m) := by rw [← uns_app, List.take_append_drop]
  rw [e, List.getElem?_append_left (List.getElem?_eq_some_iff.1 hu).1]
  exact hu
theorem runs_placed (us : List U) (h : ∀ u ∈ us, Placed u) : ∀ r ∈ runsOf us, -9223372036854775808 ≤ r.p ∧ r.p ≤ 9223372036854775807 := by
  suffices h : ∀ (us : List U) (rs : List R), (∀ u ∈ us, Placed u) → (∀ r ∈ rs, -9223372036854775808 ≤ r.p ∧ r.p ≤ 9223372036854775807) → ∀ r ∈ us.foldl addU rs, -9223372036854775808 ≤ r.p ∧ r.p ≤ 9223372036854775807 from h us [] ‹_› (fun r hr => by cases hr)
  intro us
  induction us with
  | nil => intro rs _ h; exact h
  | cons u us ih =>
    intro rs hu h
    refine ih (addU rs u) (fun x hx => hu x (List.mem_cons_of_mem _ hx)) ?_
    intro r hr
    cases hg : goes rs u with
    | false =>
      rw [addU_new hg, List.mem_append] at hr
      rcases hr with hr | hr
      · exact h r hr
      · simp at hr; subst hr; exact hu u (List.mem_cons_self ..)
    | true =>
      rcases List.eq_nil_or_concat rs with rfl | ⟨q, x, rfl⟩
      · cases hg
      · rw [List.concat_eq_append] at hg h hr
        rw [addU_on hg, List.mem_append] at hr
        rcases hr with hr | hr
        · exact h r (List.mem_append_left _ hr)
        · simp at hr; subst hr
          exact h x (by simp)

set_option maxRecDepth 100000 in
set_option maxHeartbeats 4000000 in
set_option linter.unusedVariables false in
theorem editback_any {A : Option Addr} {n ca : Nat} {us : List U} {w : World} (hL : Lies w 5 A n ca (uns us)) (hp : ∀ u ∈ us, Placed u) :
    Calls Try.prog 3 #[.slice A n ca] w fun e w' => e = .returned (.bool true) ∧ Below w.heap.size w w' := by
  have hle := hL.le
  have hbig := hL.big
  obtain ⟨m, hm, hmn, hm3⟩ : ∃ m : Nat, min (n : Int) 300 = (m : Int) ∧ m ≤ n ∧ m ≤ 300 := ⟨min n 300, by omega, by omega, by omega⟩
  have hL2 := hL.takeU m hmn
  have hln := hL2.uns_len
  obtain ⟨vs, hvs⟩ : ∃ vs, us.take m = vs := ⟨_, rfl⟩
  rw [hvs] at hL2 hln
  have hpv : ∀ u ∈ vs, Placed u := fun u hu => hp u (List.mem_of_mem_take (hvs ▸ hu))
  have HL := Lib.hid hL2; have HLN := Lib.hid hln; have HP := Lib.hid hpv
  clear hL hL2 hln hp hpv hvs
  go_enter Try.func3, Try.ntmps3
  go_upto_region 1 with fail
  go_cut [0] (fun s0 wc => s0 = .slice A m ca ∧ w = wc)
  case first =>
    have HM := Lib.hid hm
    clear hm
    go_wp2
    all_goals
      go_meet
      exact ⟨by have := HM.out; first | rfl | (congr 1; omega), rfl⟩
  case rest =>
    obtain ⟨rfl, rfl⟩ := hcut
    go_wp2
    go_loopw [3] (fun i wr => ∃ j : Nat, j ≤ m ∧ i = .int .i64 j ∧ Hid (∀ u ∈ vs.take j, mayU u = true) ∧ Grow w wr) (fun i _ => m - (intOf i).toNat)
    case atStart => exact ⟨0, Nat.zero_le _, rfl, by simp [Hid], Grow.refl _⟩
    case round =>
      obtain ⟨j, hj, rfl, hok, hg⟩ := hrel
      by_cases hlt : j < m
      · obtain ⟨u, hu⟩ : ∃ u, vs[j]? = some u := ⟨_, List.getElem?_eq_getElem (by have := HLN.out; omega)⟩
        obtain ⟨b, off, rfl, hbs, hcell⟩ := HL.out.pos (by omega) (by decide)
        obtain ⟨x0, x1, x2, x3, x4⟩ := HL.out.unit_cells hu wr hg
        have HU := Lib.hid hu; have G1 := Lib.hid hg
        clear hu hcell hg
        go_wp2_with fail
        refine (umay_any (u := u)).mono ?_
        obtain ⟨r, hr⟩ : ∃ r, mayU u = r := ⟨_, rfl⟩
        rw [hr]
        rintro e w1 ⟨rfl, g1⟩
        have HR := Lib.hid hr; have G2 := Lib.hid (G1.out.trans g1)
        clear hr g1 x0 x1 x2 x3 x4
        cases r with
        | true =>
          have hok2 : Hid (∀ u ∈ vs.take (j + 1), mayU u = true) := by
            intro x hx
            rw [List.take_add_one, HU.out, List.mem_append] at hx
            rcases hx with hx | hx
            · exact hok.out x hx
            · simp at hx; subst hx; exact HR.out
          go_wp2
          go_roundw
          case rel => exact ⟨j + 1, by omega, by go_num, hok2, G2.out⟩
          case measure => simp [intOf]; omega
        | false =>
          go_wp2_with fail
          refine wakes8.mono ?_
          rintro e w2 ⟨rfl, g2⟩
          have G3 := Lib.hid (G2.out.trans g2)
          clear g2
          go_wp2
          go_ret
          exact ⟨rfl, G3.out⟩
      · obtain rfl : j = m := by omega
        have hall : ∀ u ∈ vs, mayU u = true := by
          have := hok.out
          rwa [List.take_of_length_le (by have := HLN.out; omega)] at this
        have HA := Lib.hid hall; have G1 := Lib.hid hg
        clear hall hok hg
        go_wp2_with fail
        refine (runs_any (HL.out.below G1.out (Nat.le_refl _)) (by omega)).mono ?_
        rintro e w1 ⟨V, l, rfl, hrs, hR, g1⟩
        obtain ⟨A1, c1, rfl, -⟩ := own_form hR.row
        have G2 := Lib.hid (G1.out.trans g1)
        have R1 := Lib.hid hR.lie
        have HRS := Lib.hid hrs
        have hback := row_back vs fun u hu => ⟨HA.out u hu, HP.out u hu⟩
        have hlen : l.length ≤ j := by
          have h1 := congrArg List.length hrs
          have h2 := runsOf_len vs
          have h3 := HLN.out
          rw [List.length_map] at h1
          omega
        have HB := Lib.hid hback
        clear hrs hR g1 hback
        go_wp2_with fail
        refine (row_any HRS.out R1.out (by rw [HB.out, HLN.out]; omega)).mono ?_
        rw [HB.out]
        rintro e w2 ⟨A2, m2, c2, rfl, own2, g2⟩
        have L2 := Lib.hid (Lies.of_own own2)
        have hm2 := L2.out.uns_len
        rw [HLN.out] at hm2
        subst hm2
        have G3 := Lib.hid (G2.out.trans g2); have G23 := Lib.hid g2
        clear own2 g2
        go_wp2_with fail
        refine (esame_any L2.out (HL.out.below G3.out (Nat.le_refl _))).mono ?_
        rw [show decide (vs = vs) = true by simp]
        rintro e w3 ⟨rfl, g3⟩
        have G4 := Lib.hid (G3.out.trans g3); have G34 := Lib.hid (G23.out.trans g3)
        have L3 := Lib.hid (L2.out.below g3 (Nat.le_refl _))
        clear g3
        go_wp2_with fail
        refine (rsame_any L3.out (HL.out.below G4.out (Nat.le_refl _))).mono ?_
        rw [show decide (vs = vs) = true by simp]
        rintro e w4 ⟨rfl, g4⟩
        have G5 := Lib.hid (G4.out.trans g4)
        have R2 := Lib.hid (R1.out.grow (G34.out.trans g4))
        clear g4 R1
        have d1 : decide ((j : Int) < (l.length : Int)) = false := by simp; omega
        have d2 : decide (j < l.length) = false := by simp; omega
        have hsep := sep_back vs HA.out
        have hpl := runs_placed vs HP.out
        have S := Lib.hid hsep; have PL := Lib.hid hpl
        clear hsep hpl HA HB
        go_wp2
        go_loopw [6] (fun i wr => ∃ q : Nat, q ≤ l.length ∧ i = .int .i64 q ∧ Grow w4 wr) (fun i _ => l.length - (intOf i).toNat)
        case atStart => exact ⟨0, Nat.zero_le _, rfl, Grow.refl _⟩
        case round =>
          obtain ⟨q, hq, rfl, hg⟩ := hrel
          by_cases hlt2 : q < l.length
          · obtain ⟨⟨r, v⟩, hu⟩ : ∃ u, l[q]? = some u := ⟨_, List.getElem?_eq_getElem hlt2⟩
            obtain ⟨A5, c5, hv, hL5⟩ := R2.out.each (r, v) (List.mem_of_getElem? hu)
            simp only at hv
            subst hv
            obtain ⟨b2, off2, rfl, -, -⟩ := R2.out.row.pos (by omega) (by decide)
            have hrq : (runsOf vs)[q]? = some r := by rw [← HRS.out, List.getElem?_map, hu]; rfl
            obtain ⟨o1, o2, o3⟩ := S.out.one q r hrq
            have two : ∀ k a, q = k + 1 → (runsOf vs)[k]? = some a → a.k = r.k → a.cl = r.cl → a.rq = r.rq → r.k ≠ 0 → r.p ≠ wrap64 (a.p + wrap64 ((a.cs.length : Int) * stepI r.k)) := fun k a hk ha => S.out.two k a r ha (hk ▸ hrq)
            obtain ⟨rk, rp, rcl, rrq, rcs0⟩ := r
            simp only at o1 o2 o3 two hL5 hu
            obtain ⟨z, hz⟩ : ∃ z, rcs0.length = z := ⟨_, rfl⟩
            have X := fun W (g : Grow wr W) => R2.out.cells hu W (hg.trans g)
            simp only [hz] at X o1 o2
            have x0 := fun W g => (X W g).1
            have x1 := fun W g => (X W g).2.1
            have x2 := fun W g => (X W g).2.2.1
            have x3 := fun W g => (X W g).2.2.2.1
            have y0 := x0 wr (Grow.refl _); have y4 := (X wr (Grow.refl _)).2.2.2.2
            have z0 : ((z : Int) == 0) = false := by simp; omega
            have G6 := Lib.hid hg; have TWO := Lib.hid two; have HU := Lib.hid hu
            have d3 : decide (q < l.length) = true := by simp; omega
            clear X hL5 hg two hu hrq hz
            by_cases hk0 : rk = 0
            · subst hk0
              obtain rfl : z = 1 := o2 rfl
              go_wp2_with fail
              cases q with
              | zero =>
                refine Chain.start Nat (by kernel_rfl) (by kernel_rfl) (fun hg => ?_)
                repeat (first | (refine Chain.skip hg (fun t => by rfl) ?_; simp only [Act.put, List.setIfInBounds_toArray, List.set_cons_zero, List.set_cons_succ]) | (refine Chain.pure hg (X := ?_) (fun t W hw hN => ⟨by rfl, ?_⟩) ?_; rotate_left; (focus (go_simp <;> with_reducible rfl)); simp only [Act.put, List.setIfInBounds_toArray, List.set_cons_zero, List.set_cons_succ]))
                refine Chain.done (fun t W hw hN => ?_)
                clear hN hg
                have G7 := Lib.hid (G6.out.trans hw)
                clear hw
                go_wp2
                go_roundw
                case rel => first | exact ⟨1, by omega, by go_num, G7.out⟩ | exact ⟨k + 1 + 1, by omega, by go_num, G7.out⟩
                case measure => simp [intOf]; omega
              | succ k =>
                obtain ⟨⟨⟨ak, ap, acl, arq, acs⟩, v2⟩, hu2⟩ : ∃ u, l[k]? = some u := ⟨_, List.getElem?_eq_getElem (by omega)⟩
                obtain ⟨A6, c6, hv2, hL6⟩ := R2.out.each _ (List.mem_of_getElem? hu2)
                simp only at hv2
                subst hv2
                have TW := Lib.hid (TWO.out k _ rfl (by rw [← HRS.out, List.getElem?_map, hu2]; rfl))
                obtain ⟨za, hza⟩ : ∃ za, acs.length = za := ⟨_, rfl⟩
                have Y := fun W (g : Grow wr W) => R2.out.cells hu2 W (G6.out.trans g)
                simp only [hza] at Y
                have a0 := fun W g => (Y W g).1
                have a1 := fun W g => (Y W g).2.1
                have a2 := fun W g => (Y W g).2.2.1
                have a3 := fun W g => (Y W g).2.2.2.1
                have a4 := fun W g => (Y W g).2.2.2.2
                have AP := Lib.hid (PL.out _ (by rw [← HRS.out]; exact List.mem_map.2 ⟨_, List.mem_of_getElem? hu2, rfl⟩))
                have hza3 : za ≤ 300 := by
                  have h1 := runsOf_chars vs _ (by rw [← HRS.out]; exact List.mem_map.2 ⟨_, List.mem_of_getElem? hu2, rfl⟩)
                  have h2 := HLN.out
                  simp only at h1; omega
                have HU2 := Lib.hid hu2; have HZA := Lib.hid hza
                have i1 : (k : Int) < (l.length : Int) := by omega
                have i2 : ((k : Int) + 1) < (l.length : Int) := by omega
                have i3 : (0 : Int) ≤ (k : Int) + 1 := by omega
                have i0 : (0 : Int) ≤ (k : Int) := by omega
                have kw : IntKind.i64.wrap (k : Int) = (k : Int) := by rw [IntWalk.i64_left]; exact wrap_in (by omega) (by omega)
                have e9 : (((k + 1 : Nat) : Int) == 0) = false := by simp; omega
                have e8 : ((k : Int) + 1 == 0) = false := by simp; omega
                clear Y hL6 hu2 hza
                by_cases hak : ak = 0
                · subst hak
                  by_cases hid : acl = rcl ∧ arq = rrq
                  · obtain ⟨rfl, rfl⟩ := hid
                    refine Chain.start Nat (by kernel_rfl) (by kernel_rfl) (fun hg => ?_)
                    repeat (first | (refine Chain.skip hg (fun t => by rfl) ?_; simp only [Act.put, List.setIfInBounds_toArray, List.set_cons_zero, List.set_cons_succ]) | (refine Chain.pure hg (X := ?_) (fun t W hw hN => ⟨by rfl, ?_⟩) ?_; rotate_left; (focus (go_simp <;> with_reducible rfl)); simp only [Act.put, List.setIfInBounds_toArray, List.set_cons_zero, List.set_cons_succ]))
                    refine Chain.done (fun t W hw hN => ?_)
                    clear hN hg
                    have G7 := Lib.hid (G6.out.trans hw)
                    clear hw
                    go_wp2
                    go_roundw
                    case rel => first | exact ⟨1, by omega, by go_num, G7.out⟩ | exact ⟨k + 1 + 1, by omega, by go_num, G7.out⟩
                    case measure => simp [intOf]; omega
                  · have hid2 : acl = rcl → ¬ arq = rrq := fun h1 h2 => hid ⟨h1, h2⟩
                    refine Chain.start Nat (by kernel_rfl) (by kernel_rfl) (fun hg => ?_)
                    repeat (first | (refine Chain.skip hg (fun t => by rfl) ?_; simp only [Act.put, List.setIfInBounds_toArray, List.set_cons_zero, List.set_cons_succ]) | (refine Chain.pure hg (X := ?_) (fun t W hw hN => ⟨by rfl, ?_⟩) ?_; rotate_left; (focus (go_simp <;> with_reducible rfl)); simp only [Act.put, List.setIfInBounds_toArray, List.set_cons_zero, List.set_cons_succ]))
                    refine Chain.pure hg (X := fun _ => .bool true) (fun t W hw hN => ⟨by rfl, ?_⟩) ?_
                    · go_simp; exact hid2
                    simp only [Act.put, List.setIfInBounds_toArray, List.set_cons_zero, List.set_cons_succ]
                    repeat (first | (refine Chain.skip hg (fun t => by rfl) ?_; simp only [Act.put, List.setIfInBounds_toArray, List.set_cons_zero, List.set_cons_succ]) | (refine Chain.pure hg (X := ?_) (fun t W hw hN => ⟨by rfl, ?_⟩) ?_; rotate_left; (focus (go_simp <;> with_reducible rfl)); simp only [Act.put, List.setIfInBounds_toArray, List.set_cons_zero, List.set_cons_succ]))
                    refine Chain.done (fun t W hw hN => ?_)
                    clear hN hg
                    have G7 := Lib.hid (G6.out.trans hw)
                    clear hw
                    go_wp2
                    go_roundw
                    case rel => first | exact ⟨1, by omega, by go_num, G7.out⟩ | exact ⟨k + 1 + 1, by omega, by go_num, G7.out⟩
                    case measure => simp [intOf]; omega
                · have e1 : (ak != 0) = true := by simp [hak]
                  refine Chain.start Nat (by kernel_rfl) (by kernel_rfl) (fun hg => ?_)
                  repeat (first | (refine Chain.skip hg (fun t => by rfl) ?_; simp only [Act.put, List.setIfInBounds_toArray, List.set_cons_zero, List.set_cons_succ]) | (refine Chain.pure hg (X := ?_) (fun t W hw hN => ⟨by rfl, ?_⟩) ?_; rotate_left; (focus (go_simp <;> with_reducible rfl)); simp only [Act.put, List.setIfInBounds_toArray, List.set_cons_zero, List.set_cons_succ]))
                  refine Chain.done (fun t W hw hN => ?_)
                  clear hN hg
                  have G7 := Lib.hid (G6.out.trans hw)
                  clear hw
                  go_wp2
                  go_roundw
                  case rel => first | exact ⟨1, by omega, by go_num, G7.out⟩ | exact ⟨k + 1 + 1, by omega, by go_num, G7.out⟩
                  case measure => simp [intOf]; omega
            · have e0 : (rk == 0) = false := by simp [hk0]
              go_wp2_with fail
              cases q with
              | zero =>
                refine Chain.start Nat (by kernel_rfl) (by kernel_rfl) (fun hg => ?_)
                repeat (first | (refine Chain.skip hg (fun t => by rfl) ?_; simp only [Act.put, List.setIfInBounds_toArray, List.set_cons_zero, List.set_cons_succ]) | (refine Chain.pure hg (X := ?_) (fun t W hw hN => ⟨by rfl, ?_⟩) ?_; rotate_left; (focus (go_simp <;> with_reducible rfl)); simp only [Act.put, List.setIfInBounds_toArray, List.set_cons_zero, List.set_cons_succ]))
                refine Chain.done (fun t W hw hN => ?_)
                clear hN hg
                have G7 := Lib.hid (G6.out.trans hw)
                clear hw
                go_wp2
                go_roundw
                case rel => first | exact ⟨1, by omega, by go_num, G7.out⟩ | exact ⟨k + 1 + 1, by omega, by go_num, G7.out⟩
                case measure => simp [intOf]; omega
              | succ k =>
                obtain ⟨⟨⟨ak, ap, acl, arq, acs⟩, v2⟩, hu2⟩ : ∃ u, l[k]? = some u := ⟨_, List.getElem?_eq_getElem (by omega)⟩
                obtain ⟨A6, c6, hv2, hL6⟩ := R2.out.each _ (List.mem_of_getElem? hu2)
                simp only at hv2
                subst hv2
                have TW := Lib.hid (TWO.out k _ rfl (by rw [← HRS.out, List.getElem?_map, hu2]; rfl))
                obtain ⟨za, hza⟩ : ∃ za, acs.length = za := ⟨_, rfl⟩
                have Y := fun W (g : Grow wr W) => R2.out.cells hu2 W (G6.out.trans g)
                simp only [hza] at Y
                have a0 := fun W g => (Y W g).1
                have a1 := fun W g => (Y W g).2.1
                have a2 := fun W g => (Y W g).2.2.1
                have a3 := fun W g => (Y W g).2.2.2.1
                have a4 := fun W g => (Y W g).2.2.2.2
                have AP := Lib.hid (PL.out _ (by rw [← HRS.out]; exact List.mem_map.2 ⟨_, List.mem_of_getElem? hu2, rfl⟩))
                have hza3 : za ≤ 300 := by
                  have h1 := runsOf_chars vs _ (by rw [← HRS.out]; exact List.mem_map.2 ⟨_, List.mem_of_getElem? hu2, rfl⟩)
                  have h2 := HLN.out
                  simp only at h1; omega
                have HU2 := Lib.hid hu2; have HZA := Lib.hid hza
                have i1 : (k : Int) < (l.length : Int) := by omega
                have i2 : ((k : Int) + 1) < (l.length : Int) := by omega
                have i3 : (0 : Int) ≤ (k : Int) + 1 := by omega
                have i0 : (0 : Int) ≤ (k : Int) := by omega
                have kw : IntKind.i64.wrap (k : Int) = (k : Int) := by rw [IntWalk.i64_left]; exact wrap_in (by omega) (by omega)
                have e9 : (((k + 1 : Nat) : Int) == 0) = false := by simp; omega
                have e8 : ((k : Int) + 1 == 0) = false := by simp; omega
                clear Y hL6 hu2 hza
                by_cases hak : ak = rk
                · subst hak
                  by_cases hid : acl = rcl ∧ arq = rrq
                  · obtain ⟨rfl, rfl⟩ := hid
                    refine Chain.start Nat (by kernel_rfl) (by kernel_rfl) (fun hg => ?_)
                    repeat (first | (refine Chain.skip hg (fun t => by rfl) ?_; simp only [Act.put, List.setIfInBounds_toArray, List.set_cons_zero, List.set_cons_succ]) | (refine Chain.pure hg (X := ?_) (fun t W hw hN => ⟨by rfl, ?_⟩) ?_; rotate_left; (focus (go_simp <;> with_reducible rfl)); simp only [Act.put, List.setIfInBounds_toArray, List.set_cons_zero, List.set_cons_succ]))
                    refine Chain.done (fun t W hw hN => ?_)
                    clear hN hg
                    have G7 := Lib.hid (G6.out.trans hw)
                    have b1 := a1 W hw; have b4 := a4 W hw
                    have c0 := x0 W hw; have c1 := x1 W hw
                    clear hw x0 x1 x2 x3 a0 a1 a2 a3 a4
                    have tw := TW.out rfl rfl rfl hk0
                    simp only at tw
                    rw [HZA.out] at tw
                    have hap := AP.out
                    simp only at hap
                    rcases o3 with h | rfl | rfl
                    · exact absurd h hk0
                    · rw [show stepI 1 = 1 from rfl, Int.mul_one, wrap_in (x := (za : Int)) (by omega) (by omega)] at tw
                      have e7 : (rp == wrap64 (ap + (za : Int))) = false := by simpa using tw
                      clear tw hap
                      go_wp2
                      go_roundw
                      case rel => exact ⟨k + 1 + 1, by omega, by go_num, G7.out⟩
                      case measure => simp [intOf]; omega
                    · rw [show stepI 2 = 0 from rfl, Int.mul_zero, wrap_zero, Int.add_zero, wrap_in hap.1 hap.2] at tw
                      have e7 : (rp == ap) = false := by simpa using tw
                      clear tw hap
                      go_wp2
                      go_roundw
                      case rel => exact ⟨k + 1 + 1, by omega, by go_num, G7.out⟩
                      case measure => simp [intOf]; omega
                  · have hid2 : acl = rcl → ¬ arq = rrq := fun h1 h2 => hid ⟨h1, h2⟩
                    refine Chain.start Nat (by kernel_rfl) (by kernel_rfl) (fun hg => ?_)
                    repeat (first | (refine Chain.skip hg (fun t => by rfl) ?_; simp only [Act.put, List.setIfInBounds_toArray, List.set_cons_zero, List.set_cons_succ]) | (refine Chain.pure hg (X := ?_) (fun t W hw hN => ⟨by rfl, ?_⟩) ?_; rotate_left; (focus (go_simp <;> with_reducible rfl)); simp only [Act.put, List.setIfInBounds_toArray, List.set_cons_zero, List.set_cons_succ]))
                    refine Chain.pure hg (X := fun _ => .bool true) (fun t W hw hN => ⟨by rfl, ?_⟩) ?_
                    · go_simp; exact hid2
                    simp only [Act.put, List.setIfInBounds_toArray, List.set_cons_zero, List.set_cons_succ]
                    repeat (first | (refine Chain.skip hg (fun t => by rfl) ?_; simp only [Act.put, List.setIfInBounds_toArray, List.set_cons_zero, List.set_cons_succ]) | (refine Chain.pure hg (X := ?_) (fun t W hw hN => ⟨by rfl, ?_⟩) ?_; rotate_left; (focus (go_simp <;> with_reducible rfl)); simp only [Act.put, List.setIfInBounds_toArray, List.set_cons_zero, List.set_cons_succ]))
                    refine Chain.done (fun t W hw hN => ?_)
                    clear hN hg
                    have G7 := Lib.hid (G6.out.trans hw)
                    clear hw
                    go_wp2
                    go_roundw
                    case rel => first | exact ⟨1, by omega, by go_num, G7.out⟩ | exact ⟨k + 1 + 1, by omega, by go_num, G7.out⟩
                    case measure => simp [intOf]; omega
                · have e1 : (ak != rk) = true := by simp [hak]
                  refine Chain.start Nat (by kernel_rfl) (by kernel_rfl) (fun hg => ?_)
                  repeat (first | (refine Chain.skip hg (fun t => by rfl) ?_; simp only [Act.put, List.setIfInBounds_toArray, List.set_cons_zero, List.set_cons_succ]) | (refine Chain.pure hg (X := ?_) (fun t W hw hN => ⟨by rfl, ?_⟩) ?_; rotate_left; (focus (go_simp <;> with_reducible rfl)); simp only [Act.put, List.setIfInBounds_toArray, List.set_cons_zero, List.set_cons_succ]))
                  refine Chain.done (fun t W hw hN => ?_)
                  clear hN hg
                  have G7 := Lib.hid (G6.out.trans hw)
                  clear hw
                  go_wp2
                  go_roundw
                  case rel => first | exact ⟨1, by omega, by go_num, G7.out⟩ | exact ⟨k + 1 + 1, by omega, by go_num, G7.out⟩
                  case measure => simp [intOf]; omega
          · obtain rfl : q = l.length := by omega
            have d3 : decide (l.length < l.length) = false := by simp
            have G6 := Lib.hid hg
            clear hg
            go_wp2_with fail
            refine wakes8.mono ?_
            rintro e w5 ⟨rfl, g5⟩
            have G7 := Lib.hid (G5.out.trans (G6.out.trans g5))
            clear g5
            go_wp2
            go_ret
            exact ⟨rfl, G7.out⟩
end Go.Proofs.Ytfpbmpgdpnpdjaa

