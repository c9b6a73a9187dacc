/-
  past: the contract of Since.
-/
import Derived.Test.YtfpbmpgdpnpdjaaPAt
import Derived.Laws.ResultCell
namespace Go.Proofs.Ytfpbmpgdpnpdjaa
open Go.RowKit
set_option linter.unusedSimpArgs false

theorem Lies.fromG {w : World} {sz n c : Nat} {A : Option Addr} {xs : List Value} (h : Lies w sz A n c xs) (i : Nat) (hi : i ≤ n) : Lies w sz (if c = i then A else A.map (fun x => x.add (i * sz))) (n - i) (c - i) (xs.drop (i * sz)) := by
  have hl := h.len
  have hle := h.le
  have hbig := h.big
  have hlen : (xs.drop (i * sz)).length = (n - i) * sz := by rw [List.length_drop, hl, Nat.sub_mul]
  by_cases hc : c = i
  · rw [if_pos hc]
    refine ⟨hlen, fun _ => by omega, by omega, by omega, fun a ha x u hu => ?_⟩
    have := (List.getElem?_eq_some_iff.1 hu).1
    rw [hlen, show n - i = 0 by omega] at this
    omega
  · rw [if_neg hc]
    refine ⟨hlen, fun h0 => ?_, by omega, by omega, fun a ha x u hu => ?_⟩
    · have := h.nilc (by simpa using h0)
      omega
    · obtain ⟨a0, rfl⟩ : ∃ a0, A = some a0 := by cases A with | none => cases ha | some a0 => exact ⟨a0, rfl⟩
      injection ha with ha
      subst ha
      rw [List.getElem?_drop] at hu
      have := h.cells a0 rfl _ u hu
      rwa [← Deep.add_add] at this
theorem OpsLie.fromG {w : World} {S : Nat → Prop} {n c : Nat} {A : Option Addr} {l : List (O × Value)} (h : OpsLie w S A n c l) (i : Nat) (hi : i ≤ n) : OpsLie w S (if c = i then A else A.map (fun x => x.add (i * 4))) (n - i) (c - i) (l.drop i) :=
  ⟨by rw [← ocs_drop]; exact h.row.fromG i hi, fun a ha h0 => by
    split at ha
    · exact h.rowIn a ha (by omega)
    · obtain ⟨a0, rfl⟩ : ∃ a0, A = some a0 := by cases A with | none => cases ha | some a0 => exact ⟨a0, rfl⟩
      injection ha with ha
      subst ha
      rw [add_block]
      exact h.rowIn a0 rfl (by omega), fun x hx => h.each x (List.mem_of_mem_drop hx)⟩
set_option maxRecDepth 100000 in
theorem since1_any {p q d b1 b2 : Nat} {V B : Value} {l : List (O × Value)} {lens : List Int} {S : Nat → Prop} {w : World} (hP : PastAt w S p q V l B lens) (hk : l.length ≤ 256) (hu : ∀ o ∈ l.map (·.1), o.us.length * 40 ≤ 140737488355328) (hd : d ≤ l.length)
    (h1 : w.heap[b1]? = some (.cells #[.pointer (some ⟨p, 0, none⟩)] 59 (0, 0))) (h2 : w.heap[b2]? = some (.cells #[.slice none 0 0] 58 (0, 0))) :
    Calls Try.prog 67 #[.int .i64 d, .pointer (some ⟨b1, 0, none⟩), .pointer (some ⟨b2, 0, none⟩)] w fun e w' => e = .returned (.tuple #[]) ∧ ∃ A' n' c' l', w'.heap[b2]? = some (.cells #[.slice A' n' c'] 58 (0, 0)) ∧ l'.map (·.1) = (l.map (·.1)).drop d ∧ OpsOwn w' (fun k => w.heap.size ≤ k) (.slice A' n' c') l' ∧ GrowS (fun k => k = b2) w w' := by
  obtain ⟨A, c, rfl⟩ := hP.formV
  obtain ⟨k, hlk⟩ : ∃ k, l.length = k := ⟨_, rfl⟩
  have hle := hP.own.lie.row.le
  have hbig := hP.own.lie.row.big
  rw [hlk] at hP hk hd hle
  have HP := Lib.hid hP; have HU := Lib.hid hu; have HLK := Lib.hid hlk
  have HB2 := Lib.hid h2
  have x1 := cell_of_row w b1 0 _ _ (0, 0) h1
  have y1 := HP.out.c1
  clear hP hu hlk h1 h2
  have hf := HP.out.own.lie.fromG d hd
  by_cases hcd : c = d
  · rw [if_pos hcd, show c - d = 0 by omega] at hf
    have HF := Lib.hid hf
    clear hf
    go_enter Try.func67, Try.ntmps67
    go_wp2_with fail
    refine (powns_any (os := (l.map (·.1)).drop d) (by rw [List.map_drop]) HF.out (by omega) (fun o ho => HU.out o (List.mem_of_mem_drop ho))).mono ?_
    rintro e w1 ⟨A', c', l', rfl, hl', own1, g1⟩
    have hb := row_grow HB2.out g1
    have O1 := Lib.hid own1; have G1 := Lib.hid g1; have HL' := Lib.hid hl'; have HB := Lib.hid hb
    have z1 := cell_of_row w1 b2 0 _ _ (0, 0) hb
    have z2 := frozen_of_row w1 b2 0 _ _ hb
    clear hl' own1 g1 hb x1 y1
    go_wp2
    go_end0
    have gs : GrowS (fun i => i = b2) w1 (w1.setCell ⟨b2, 0, none⟩ (.slice A' (k - d) c')) := GrowS.setCell (T := fun i => i = b2) w1 (p := ⟨b2, 0, none⟩) rfl _
    exact ⟨rfl, A', k - d, c', l', by simpa using heap_setCell_same w1 b2 0 _ _ (.slice A' (k - d) c') HB.out, HL'.out, O1.out.keep gs (fun i hi e => by subst e; have := (Array.getElem?_eq_some_iff.1 HB2.out).1; omega), (G1.out.wide _).trans gs⟩
  · rw [if_neg hcd] at hf
    have HF := Lib.hid hf
    clear hf
    go_enter Try.func67, Try.ntmps67
    go_wp2_with fail
    refine (powns_any (os := (l.map (·.1)).drop d) (by rw [List.map_drop]) HF.out (by omega) (fun o ho => HU.out o (List.mem_of_mem_drop ho))).mono ?_
    rintro e w1 ⟨A', c', l', rfl, hl', own1, g1⟩
    have hb := row_grow HB2.out g1
    have O1 := Lib.hid own1; have G1 := Lib.hid g1; have HL' := Lib.hid hl'; have HB := Lib.hid hb
    have z1 := cell_of_row w1 b2 0 _ _ (0, 0) hb
    have z2 := frozen_of_row w1 b2 0 _ _ hb
    clear hl' own1 g1 hb x1 y1
    go_wp2
    go_end0
    have gs : GrowS (fun i => i = b2) w1 (w1.setCell ⟨b2, 0, none⟩ (.slice A' (k - d) c')) := GrowS.setCell (T := fun i => i = b2) w1 (p := ⟨b2, 0, none⟩) rfl _
    exact ⟨rfl, A', k - d, c', l', by simpa using heap_setCell_same w1 b2 0 _ _ (.slice A' (k - d) c') HB.out, HL'.out, O1.out.keep gs (fun i hi e => by subst e; have := (Array.getElem?_eq_some_iff.1 HB2.out).1; omega), (G1.out.wide _).trans gs⟩
set_option maxRecDepth 100000 in
theorem since_ok {p q d : Nat} {r : Int} {os : List O} {lens : List Int} {S : Nat → Prop} {w : World} (hP : PastIs w S p q os lens) (hk : os.length ≤ 256) (hu : ∀ o ∈ os, o.us.length * 40 ≤ 140737488355328) (hq : q ≤ 2305843009213693952) (hd : d ≤ os.length) (hr : r = (q : Int) + d) :
    Calls Try.prog 38 #[.pointer (some ⟨p, 0, none⟩), .int .u64 r] w fun e w' => ∃ A' n' c' l', e = .returned (.tuple #[.slice A' n' c', .int .i64 0]) ∧ l'.map (·.1) = os.drop d ∧ OpsOwn w' (fun k => w.heap.size ≤ k) (.slice A' n' c') l' ∧ Grow w w' := by
  obtain ⟨V, l, B, hos, hP⟩ := hP
  obtain ⟨A, c, rfl⟩ := hP.formV
  subst hos
  rw [List.length_map] at hk hd
  have HP := Lib.hid hP; have HU := Lib.hid hu; have HR := Lib.hid hr
  clear hP hu hr
  go_enter Try.func38, Try.ntmps38
  go_wp2_with fail
  have g2 : Grow w ((w.alloc (.cells #[.pointer (some ⟨p, 0, none⟩)] 59)).alloc (.cells #[.slice none 0 0] 58)) := (Grow.alloc _ _).trans (Grow.alloc _ _)
  have hb1 := heap_alloc2_old w (.cells #[.pointer (some ⟨p, 0, none⟩)] 59) (.cells #[.slice none 0 0] 58)
  have hb2 := heap_alloc2_new w (.cells #[.pointer (some ⟨p, 0, none⟩)] 59) (.cells #[.slice none 0 0] 58)
  have P2 := HP.out.grow g2
  refine (at_do_since P2.c0 P2.c1 P2.c3 hq (by omega) HR.out hd (.inl rfl) (by omega) (since1_any P2 hk HU.out hd hb1 (by simpa using hb2))).mono ?_
  rintro e w1 ⟨rfl, A', n', c', l', hb3, hl', own1, g1⟩
  have O1 := Lib.hid own1; have G1 := Lib.hid g1; have HL' := Lib.hid hl'; have HB := Lib.hid hb3
  have z1 := cell_of_row w1 (w.heap.size + 1) 0 _ _ (0, 0) hb3
  have z2 := frozen_of_row w1 (w.heap.size + 1) 0 _ _ hb3
  clear hl' own1 g1 hb3 g2 hb1 hb2 P2
  go_wp2
  have hb5 := heap_setCell_same w1 (w.heap.size + 1) 0 _ _ (.slice A' n' c') HB.out
  have z3 := cell_of_row _ (w.heap.size + 1) 0 _ _ (0, 0) hb5
  have gs : GrowS (fun i => i = w.heap.size + 1) w1 (w1.setCell ⟨w.heap.size + 1, 0, none⟩ (.slice A' n' c')) := GrowS.setCell (T := fun i => i = w.heap.size + 1) w1 (p := ⟨w.heap.size + 1, 0, none⟩) rfl _
  refine bodyPost_ret (v := .tuple #[.slice A' n' c', .int .i64 0]) (by rw [results_cell_tmp rfl]; go_simp) rfl ⟨A', n', c', l', rfl, HL'.out, (O1.out.keep gs (fun i hi e => by subst e; simp at hi; omega)).mono (fun k hk => by simp at hk; omega), ?_⟩
  exact (G1.out.trans gs).over ((Grow.alloc w _).trans (Grow.alloc _ _)) (fun k hk => by omega)
end Go.Proofs.Ytfpbmpgdpnpdjaa

