/-
  lazy: the contracts of slices.IndexFunc with the closures of next, Take, Piece.
-/
import Derived.Test.YtlnokohmmhmoaaaLFetch
namespace Go.Proofs.Ytlnokohmmhmoaaa
open Go.RowKit
set_option linter.unusedSimpArgs false

def idxI {α : Type} (f : α → Bool) (l : List α) : Int := match l.findIdx? f with | some i => (i : Int) | none => -1
theorem idxI_hit {α : Type} {f : α → Bool} {l : List α} {j : Nat} {x : α} (hx : l[j]? = some x) (hf : f x = true) (h : ∀ y ∈ l.take j, f y = false) : idxI f l = (j : Int) := by
  have hj := (List.getElem?_eq_some_iff.1 hx).1
  have : l.findIdx? f = some j := by
    rw [List.findIdx?_eq_some_iff_getElem]
    refine ⟨hj, ?_, fun k hk => ?_⟩
    · rw [(List.getElem?_eq_some_iff.1 hx).2]; exact hf
    · have := h l[k] (List.mem_of_getElem? (i := k) (by rw [List.getElem?_take, if_pos hk]; exact List.getElem?_eq_getElem (by omega)))
      rw [this]
      decide
  unfold idxI
  rw [this]
theorem idxI_none {α : Type} {f : α → Bool} {l : List α} (h : ∀ y ∈ l, f y = false) : idxI f l = -1 := by
  have : l.findIdx? f = none := by
    rw [List.findIdx?_eq_none_iff]
    exact h
  unfold idxI
  rw [this]
theorem take_no {α : Type} {f : α → Bool} {l : List α} {j : Nat} {x : α} (hx : l[j]? = some x) (hf : f x = false) (h : ∀ y ∈ l.take j, f y = false) : ∀ y ∈ l.take (j + 1), f y = false := by
  intro y hy
  rw [List.take_add_one, hx, List.mem_append] at hy
  rcases hy with hy | hy
  · exact h y hy
  · simp at hy; subst hy; exact hf
theorem next1_any {d : Dt} {A : Option Addr} {n c : Nat} {w : World} : Calls Try.prog 39 #[.agg #[.int .u32 d.doc, .int .u64 d.rev, .int .u64 d.turn, .slice A n c, .int .i64 d.total, .bool d.all]] w fun e w' => e = .returned (.bool (!d.all)) ∧ Grow w w' := by
  go_enter Try.func39, Try.ntmps39
  go_wp2
  go_ret
  exact ⟨rfl, Grow.alloc _ _⟩
theorem take1_any {d : Dt} {A : Option Addr} {n c m doc : Nat} {w : World} (hm : w.cell? ⟨m, 14, none⟩ = some (.int .u32 doc)) : Calls Try.prog 38 #[.agg #[.int .u32 d.doc, .int .u64 d.rev, .int .u64 d.turn, .slice A n c, .int .i64 d.total, .bool d.all], .pointer (some ⟨m, 0, none⟩)] w fun e w' => e = .returned (.bool (decide (d.doc = doc) && !d.all)) ∧ Grow w w' := by
  have hm2 := grow_cell hm (Grow.alloc w (.cells #[.int .u32 d.doc, .int .u64 d.rev, .int .u64 d.turn, .slice A n c, .int .i64 d.total, .bool d.all] 73))
  by_cases h : d.doc = doc
  · have e1 : ((d.doc : Int) == (doc : Int)) = true := by simp; omega
    have e2 : decide (d.doc = doc) = true := by simp; omega
    rw [e2]
    clear h hm
    go_enter Try.func38, Try.ntmps38
    go_wp2
    go_ret
    exact ⟨by simp, Grow.alloc _ _⟩
  · have e1 : ((d.doc : Int) == (doc : Int)) = false := by simp; omega
    have e2 : decide (d.doc = doc) = false := by simp; omega
    rw [e2]
    clear h hm
    go_enter Try.func38, Try.ntmps38
    go_wp2
    go_ret
    exact ⟨by simp, Grow.alloc _ _⟩
theorem piece1_any {d : Pt} {A : Option Addr} {n c m doc : Nat} {w : World} (hm : w.cell? ⟨m, 14, none⟩ = some (.int .u32 doc)) : Calls Try.prog 33 #[.agg #[.int .u32 d.doc, .int .u64 d.rev, .int .u64 d.turn, .slice A n c], .pointer (some ⟨m, 0, none⟩)] w fun e w' => e = .returned (.bool (decide (d.doc = doc))) ∧ Grow w w' := by
  have hm2 := grow_cell hm (Grow.alloc w (.cells #[.int .u32 d.doc, .int .u64 d.rev, .int .u64 d.turn, .slice A n c] 31))
  obtain ⟨r, hr⟩ : ∃ r, decide (d.doc = doc) = r := ⟨_, rfl⟩
  have e1 : ((d.doc : Int) == (doc : Int)) = r := by rw [← hr]; by_cases h : d.doc = doc <;> simp [h] <;> omega
  rw [hr]
  clear hr hm
  go_enter Try.func33, Try.ntmps33
  go_wp2
  go_ret
  exact ⟨by first | rfl | simp [e1], Grow.alloc _ _⟩
set_option maxRecDepth 100000 in
theorem idx_next {A : Option Addr} {n c : Nat} {l : List (Dt × Value)} {w : World} (hL : Lies w 6 A n c (l.flatMap dcell)) (hv : ∀ x ∈ l, ∃ A n c, x.2 = .slice A n c) :
    Calls Try.prog 37 #[.slice A n c, .func (.func 39) #[] #[]] w fun e w' => e = .returned (.int .i64 (idxI (fun d : Dt => !d.all) (l.map (·.1)))) ∧ Grow w w' := by
  have hle := hL.le
  have hbig := hL.big
  have hln := Lies.flat_n dcell_len (by decide) hL
  have HL := Lib.hid hL; have HLN := Lib.hid hln; have HV := Lib.hid hv
  clear hL hln hv
  obtain ⟨f, hf⟩ : ∃ f : Dt → Bool, (fun d : Dt => !d.all) = f := ⟨_, rfl⟩
  rw [hf]
  have HF := Lib.hid hf
  clear hf
  go_enter Try.func37, Try.ntmps37
  go_wp2
  go_loopw [8] (fun i wr => ∃ j : Nat, j ≤ n ∧ i = .int .i64 j ∧ Hid (∀ y ∈ (l.map (·.1)).take j, f y = false) ∧ Grow w wr) (fun i _ => n - (intOf i).toNat)
  case atStart => exact ⟨0, Nat.zero_le _, rfl, by simp [Hid], Grow.refl _⟩
  case round =>
    obtain ⟨j, hj, rfl, hok, gw⟩ := hrel
    have GW := Lib.hid gw
    by_cases hlt : j < n
    · obtain ⟨⟨d, v⟩, hx⟩ : ∃ x, l[j]? = some x := ⟨_, List.getElem?_eq_getElem (by have := HLN.out; omega)⟩
      obtain ⟨A1, n1, c1, hv1⟩ := HV.out _ (List.mem_of_getElem? hx)
      simp only at hv1
      subst hv1
      obtain ⟨b, off, rfl, -, -⟩ := HL.out.pos (by omega) (by decide)
      have hd : (l.map (·.1))[j]? = some d := by rw [List.getElem?_map, hx]; rfl
      have x0 := grow_cell (Lies.flat_cell (j := 0) dcell_len HL.out hx rfl) gw
      have x1 := grow_cell (Lies.flat_cell (j := 1) dcell_len HL.out hx rfl) gw
      have x2 := grow_cell (Lies.flat_cell (j := 2) dcell_len HL.out hx rfl) gw
      have x3 := grow_cell (Lies.flat_cell (j := 3) dcell_len HL.out hx rfl) gw
      have x4 := grow_cell (Lies.flat_cell (j := 4) dcell_len HL.out hx rfl) gw
      have x5 := grow_cell (Lies.flat_cell (j := 5) dcell_len HL.out hx rfl) gw
      simp only [Nat.add_zero] at x0
      obtain ⟨r, hr⟩ : ∃ r, f d = r := ⟨_, rfl⟩
      have HD := Lib.hid hd; have HR := Lib.hid hr
      clear hx hd hr gw
      go_wp2_with fail
      refine ((next1_any (d := d) )).mono ?_
      rintro e w1 ⟨rfl, g1⟩
      have er : (fun d : Dt => !d.all) d = r := by rw [HF.out, HR.out]
      simp only at er
      rw [er]
      have G1 := Lib.hid (GW.out.trans g1)
      clear g1 er x0 x1 x2 x3 x4 x5
      cases r with
      | false =>
        have hok2 := Lib.hid (take_no HD.out HR.out hok.out)
        go_wp2
        go_roundw
        case rel => exact ⟨j + 1, by omega, by go_num, hok2, G1.out⟩
        case measure => simp [intOf]; omega
      | true =>
        have he := Lib.hid (idxI_hit HD.out HR.out hok.out)
        go_wp2
        go_ret
        exact ⟨by rw [he.out]; rfl, G1.out⟩
    · obtain rfl : j = n := by omega
      have e : (l.map (·.1)).take j = l.map (·.1) := List.take_of_length_le (by rw [List.length_map, HLN.out]; exact Nat.le_refl _)
      have H2 := Lib.hid (idxI_none (e ▸ hok.out))
      clear e gw
      go_wp2
      go_ret
      exact ⟨by rw [H2.out]; rfl, GW.out⟩
set_option maxRecDepth 100000 in
theorem idx_take {A : Option Addr} {n c : Nat} {m doc : Nat} {l : List (Dt × Value)} {w : World} (hL : Lies w 6 A n c (l.flatMap dcell)) (hv : ∀ x ∈ l, ∃ A n c, x.2 = .slice A n c) (hm : w.cell? ⟨m, 14, none⟩ = some (.int .u32 doc)) :
    Calls Try.prog 37 #[.slice A n c, .func (.func 38) #[] #[.pointer (some ⟨m, 0, none⟩)]] w fun e w' => e = .returned (.int .i64 (idxI (fun d : Dt => decide (d.doc = doc) && !d.all) (l.map (·.1)))) ∧ Grow w w' := by
  have hle := hL.le
  have hbig := hL.big
  have hln := Lies.flat_n dcell_len (by decide) hL
  have HL := Lib.hid hL; have HLN := Lib.hid hln; have HV := Lib.hid hv; have HM := Lib.hid hm
  clear hL hln hv hm
  obtain ⟨f, hf⟩ : ∃ f : Dt → Bool, (fun d : Dt => decide (d.doc = doc) && !d.all) = f := ⟨_, rfl⟩
  rw [hf]
  have HF := Lib.hid hf
  clear hf
  go_enter Try.func37, Try.ntmps37
  go_wp2
  go_loopw [8] (fun i wr => ∃ j : Nat, j ≤ n ∧ i = .int .i64 j ∧ Hid (∀ y ∈ (l.map (·.1)).take j, f y = false) ∧ Grow w wr) (fun i _ => n - (intOf i).toNat)
  case atStart => exact ⟨0, Nat.zero_le _, rfl, by simp [Hid], Grow.refl _⟩
  case round =>
    obtain ⟨j, hj, rfl, hok, gw⟩ := hrel
    have GW := Lib.hid gw
    by_cases hlt : j < n
    · obtain ⟨⟨d, v⟩, hx⟩ : ∃ x, l[j]? = some x := ⟨_, List.getElem?_eq_getElem (by have := HLN.out; omega)⟩
      obtain ⟨A1, n1, c1, hv1⟩ := HV.out _ (List.mem_of_getElem? hx)
      simp only at hv1
      subst hv1
      obtain ⟨b, off, rfl, -, -⟩ := HL.out.pos (by omega) (by decide)
      have hd : (l.map (·.1))[j]? = some d := by rw [List.getElem?_map, hx]; rfl
      have x0 := grow_cell (Lies.flat_cell (j := 0) dcell_len HL.out hx rfl) gw
      have x1 := grow_cell (Lies.flat_cell (j := 1) dcell_len HL.out hx rfl) gw
      have x2 := grow_cell (Lies.flat_cell (j := 2) dcell_len HL.out hx rfl) gw
      have x3 := grow_cell (Lies.flat_cell (j := 3) dcell_len HL.out hx rfl) gw
      have x4 := grow_cell (Lies.flat_cell (j := 4) dcell_len HL.out hx rfl) gw
      have x5 := grow_cell (Lies.flat_cell (j := 5) dcell_len HL.out hx rfl) gw
      simp only [Nat.add_zero] at x0
      obtain ⟨r, hr⟩ : ∃ r, f d = r := ⟨_, rfl⟩
      have HD := Lib.hid hd; have HR := Lib.hid hr
      clear hx hd hr gw
      go_wp2_with fail
      refine ((take1_any (d := d) (grow_cell HM.out GW.out))).mono ?_
      rintro e w1 ⟨rfl, g1⟩
      have er : (fun d : Dt => decide (d.doc = doc) && !d.all) d = r := by rw [HF.out, HR.out]
      simp only at er
      rw [er]
      have G1 := Lib.hid (GW.out.trans g1)
      clear g1 er x0 x1 x2 x3 x4 x5
      cases r with
      | false =>
        have hok2 := Lib.hid (take_no HD.out HR.out hok.out)
        go_wp2
        go_roundw
        case rel => exact ⟨j + 1, by omega, by go_num, hok2, G1.out⟩
        case measure => simp [intOf]; omega
      | true =>
        have he := Lib.hid (idxI_hit HD.out HR.out hok.out)
        go_wp2
        go_ret
        exact ⟨by rw [he.out]; rfl, G1.out⟩
    · obtain rfl : j = n := by omega
      have e : (l.map (·.1)).take j = l.map (·.1) := List.take_of_length_le (by rw [List.length_map, HLN.out]; exact Nat.le_refl _)
      have H2 := Lib.hid (idxI_none (e ▸ hok.out))
      clear e gw
      go_wp2
      go_ret
      exact ⟨by rw [H2.out]; rfl, GW.out⟩
set_option maxRecDepth 100000 in
theorem idx_piece {A : Option Addr} {n c : Nat} {m doc : Nat} {l : List (Pt × Value)} {w : World} (hL : Lies w 4 A n c (l.flatMap pcell)) (hv : ∀ x ∈ l, ∃ A n c, x.2 = .slice A n c) (hm : w.cell? ⟨m, 14, none⟩ = some (.int .u32 doc)) :
    Calls Try.prog 32 #[.slice A n c, .func (.func 33) #[] #[.pointer (some ⟨m, 0, none⟩)]] w fun e w' => e = .returned (.int .i64 (idxI (fun d : Pt => decide (d.doc = doc)) (l.map (·.1)))) ∧ Grow w w' := by
  have hle := hL.le
  have hbig := hL.big
  have hln := Lies.flat_n pcell_len (by decide) hL
  have HL := Lib.hid hL; have HLN := Lib.hid hln; have HV := Lib.hid hv; have HM := Lib.hid hm
  clear hL hln hv hm
  obtain ⟨f, hf⟩ : ∃ f : Pt → Bool, (fun d : Pt => decide (d.doc = doc)) = f := ⟨_, rfl⟩
  rw [hf]
  have HF := Lib.hid hf
  clear hf
  go_enter Try.func32, Try.ntmps32
  go_wp2
  go_loopw [8] (fun i wr => ∃ j : Nat, j ≤ n ∧ i = .int .i64 j ∧ Hid (∀ y ∈ (l.map (·.1)).take j, f y = false) ∧ Grow w wr) (fun i _ => n - (intOf i).toNat)
  case atStart => exact ⟨0, Nat.zero_le _, rfl, by simp [Hid], Grow.refl _⟩
  case round =>
    obtain ⟨j, hj, rfl, hok, gw⟩ := hrel
    have GW := Lib.hid gw
    by_cases hlt : j < n
    · obtain ⟨⟨d, v⟩, hx⟩ : ∃ x, l[j]? = some x := ⟨_, List.getElem?_eq_getElem (by have := HLN.out; omega)⟩
      obtain ⟨A1, n1, c1, hv1⟩ := HV.out _ (List.mem_of_getElem? hx)
      simp only at hv1
      subst hv1
      obtain ⟨b, off, rfl, -, -⟩ := HL.out.pos (by omega) (by decide)
      have hd : (l.map (·.1))[j]? = some d := by rw [List.getElem?_map, hx]; rfl
      have x0 := grow_cell (Lies.flat_cell (j := 0) pcell_len HL.out hx rfl) gw
      have x1 := grow_cell (Lies.flat_cell (j := 1) pcell_len HL.out hx rfl) gw
      have x2 := grow_cell (Lies.flat_cell (j := 2) pcell_len HL.out hx rfl) gw
      have x3 := grow_cell (Lies.flat_cell (j := 3) pcell_len HL.out hx rfl) gw
      simp only [Nat.add_zero] at x0
      obtain ⟨r, hr⟩ : ∃ r, f d = r := ⟨_, rfl⟩
      have HD := Lib.hid hd; have HR := Lib.hid hr
      clear hx hd hr gw
      go_wp2_with fail
      refine ((piece1_any (d := d) (grow_cell HM.out GW.out))).mono ?_
      rintro e w1 ⟨rfl, g1⟩
      have er : (fun d : Pt => decide (d.doc = doc)) d = r := by rw [HF.out, HR.out]
      simp only at er
      rw [er]
      have G1 := Lib.hid (GW.out.trans g1)
      clear g1 er x0 x1 x2 x3
      cases r with
      | false =>
        have hok2 := Lib.hid (take_no HD.out HR.out hok.out)
        go_wp2
        go_roundw
        case rel => exact ⟨j + 1, by omega, by go_num, hok2, G1.out⟩
        case measure => simp [intOf]; omega
      | true =>
        have he := Lib.hid (idxI_hit HD.out HR.out hok.out)
        go_wp2
        go_ret
        exact ⟨by rw [he.out]; rfl, G1.out⟩
    · obtain rfl : j = n := by omega
      have e : (l.map (·.1)).take j = l.map (·.1) := List.take_of_length_le (by rw [List.length_map, HLN.out]; exact Nat.le_refl _)
      have H2 := Lib.hid (idxI_none (e ▸ hok.out))
      clear e gw
      go_wp2
      go_ret
      exact ⟨by rw [H2.out]; rfl, GW.out⟩
end Go.Proofs.Ytlnokohmmhmoaaa

