/-
  past: operations of the call's own; the contract of owns.
-/
import Derived.Test.YtfpbmpgdpnpdjaaPOwn
import Derived.Test.YtfpbmpgdpnpdjaaPClone
namespace Go.Proofs.Ytfpbmpgdpnpdjaa
open Go.RowKit
set_option linter.unusedSimpArgs false

/-- Operations in rows of the call's own; all blocks are of S. -/
structure OpsOwn (w : World) (S : Nat → Prop) (V : Value) (l : List (O × Value)) : Prop where
  row : w.ownsRow 0 67 4 V l.length (ocs l)
  rowIn : ∀ g, V.ownBlock = some g → S g
  each : ∀ x ∈ l, w.ownsRow 0 30 5 x.2 x.1.us.length (uns x.1.us)
  eachIn : ∀ x ∈ l, ∀ g, x.2.ownBlock = some g → S g
  apart : ∀ x ∈ l, BApart V x.2
theorem OpsOwn.nil (w : World) (S : Nat → Prop) : OpsOwn w S (.slice none 0 0) [] := ⟨own_nilO _ _, fun _ h => by (cases h), fun _ h => by (cases h), fun _ h => by (cases h), fun _ h => by (cases h)⟩
theorem OpsOwn.keep {w w' : World} {S T : Nat → Prop} {V : Value} {l : List (O × Value)} (h : OpsOwn w S V l) (g : GrowS T w w') (hT : ∀ k, S k → ¬ T k) : OpsOwn w' S V l :=
  ⟨g.own h.row (fun k hk => hT k (h.rowIn k hk)), h.rowIn, fun x hx => g.own (h.each x hx) (fun k hk => hT k (h.eachIn x hx k hk)), h.eachIn, h.apart⟩
theorem OpsOwn.grow {w w' : World} {S : Nat → Prop} {V : Value} {l : List (O × Value)} (h : OpsOwn w S V l) (g : Grow w w') : OpsOwn w' S V l := h.keep (g.wide NoRow) (fun _ _ k => k)
theorem OpsOwn.mono {w : World} {S S' : Nat → Prop} {V : Value} {l : List (O × Value)} (h : OpsOwn w S V l) (hS : ∀ k, S k → S' k) : OpsOwn w S' V l :=
  ⟨h.row, fun g hg => hS _ (h.rowIn g hg), h.each, fun x hx g hg => hS _ (h.eachIn x hx g hg), h.apart⟩
theorem own_addr {w : World} {base : Nat} {e : TypeId} {sz n m c : Nat} {A : Option Addr} {xs : List Value} (h : w.ownsRow base e sz (.slice A n c) m xs) : ∀ a, A = some a → (Value.slice A n c).ownBlock = some a.block := by
  intro a ha
  rcases h.2 with ⟨h2, -⟩ | ⟨g, cap, cur, h2, -⟩
  · injection h2 with h2; rw [ha] at h2; cases h2
  · injection h2 with h2; rw [ha] at h2; injection h2 with h2; subst h2; subst ha; rfl
theorem OpsOwn.lie {w : World} {S : Nat → Prop} {A : Option Addr} {n c : Nat} {l : List (O × Value)} (h : OpsOwn w S (.slice A n c) l) : OpsLie w S A n c l := by
  have hn := own_len h.row
  subst hn
  exact ⟨Lies.of_own h.row, fun a ha _ => h.rowIn _ (own_addr h.row a ha), fun x hx => by
    obtain ⟨A', c', h1, h2⟩ := own_form (h.each x hx)
    exact ⟨A', _, c', h1, h2, fun a ha _ => h.eachIn x hx _ (h1 ▸ own_addr (h1 ▸ h.each x hx) a ha)⟩⟩
theorem OpsOwn.oc {w : World} {S : Nat → Prop} {V : Value} {l : List (O × Value)} (h : OpsOwn w S V l) : ∀ x ∈ l, x.2.oneCell' = true := fun x hx => by
  obtain ⟨A', c', h1, _⟩ := own_form (h.each x hx)
  rw [h1]; rfl
theorem OpsLie.oc {w : World} {S : Nat → Prop} {A : Option Addr} {n c : Nat} {l : List (O × Value)} (h : OpsLie w S A n c l) : ∀ x ∈ l, x.2.oneCell' = true := fun x hx => by
  obtain ⟨A', n', c', h1, _⟩ := h.each x hx
  rw [h1]; rfl
/-- One more. -/
theorem OpsOwn.snoc {w w' : World} {S S' : Nat → Prop} {V V' v : Value} {l : List (O × Value)} {o : O} (h : OpsOwn w S V l) (hv : w.ownsRow 0 30 5 v o.us.length (uns o.us)) (hvS : ∀ g, v.ownBlock = some g → S' g) (hap : BApart V v)
    (hg : w.grownBy w' V.ownBlock) (hf : Fresh w V V') (hS : ∀ k, S k → S' k) (hS' : ∀ k, w.heap.size ≤ k → S' k) (ho : w'.ownsRow 0 67 4 V' (l.length + 1) (ocs (l ++ [(o, v)]))) : OpsOwn w' S' V' (l ++ [(o, v)]) := by
  have key : ∀ {x : Value} {n xs}, w.ownsRow 0 30 5 x n xs → BApart V x → w'.ownsRow 0 30 5 x n xs := fun {x n xs} ho hb => ho.kept hg (by
    cases hx : x.ownBlock with
    | none => exact .inl rfl
    | some g => exact .inr fun e => hb g e.symm hx)
  refine ⟨by simpa using ho, fun g hg => ?_, fun x hx => ?_, fun x hx => ?_, fun x hx => ?_⟩
  · rcases hf with hf | hf
    · exact hS _ (h.rowIn g (hf ▸ hg))
    · exact hS' _ (hf g hg)
  · rcases List.mem_append.1 hx with hx | hx
    · exact key (h.each x hx) (h.apart x hx)
    · simp at hx; subst hx; exact key hv hap
  · rcases List.mem_append.1 hx with hx | hx
    · exact fun g hg => hS _ (h.eachIn x hx g hg)
    · simp at hx; subst hx; exact hvS
  · rcases List.mem_append.1 hx with hx | hx
    · exact (h.apart x hx).fresh hf fun g hg => ((h.each x hx).lt g hg).2
    · simp at hx; subst hx; exact hap.fresh hf fun g hg => (hv.lt g hg).2
theorem own_apart {w : World} {b1 : Nat} {e1 e2 : TypeId} {s1 s2 n1 n2 : Nat} {V v : Value} {xs ys : List Value} (h1 : w.ownsRow b1 e1 s1 V n1 xs) {w' : World} (h2 : w'.ownsRow w.heap.size e2 s2 v n2 ys) : BApart V v := by
  intro g hg hg2
  have a := (h1.lt g hg).2
  have b := (h2.lt g hg2).1
  omega

set_option maxRecDepth 100000 in
set_option linter.unusedVariables false in
theorem powns_any {A : Option Addr} {n c : Nat} {l : List (O × Value)} {os : List O} {S : Nat → Prop} {w : World} (hos : l.map (·.1) = os) (hL : OpsLie w S A n c l) (hn : n * 48 ≤ 140737488355328) (hu : ∀ o ∈ os, o.us.length * 40 ≤ 140737488355328) :
    Calls Try.prog 63 #[.slice A n c] w fun e w' => ∃ A' c' l', e = .returned (.slice A' n c') ∧ l'.map (·.1) = os ∧ OpsOwn w' (fun k => w.heap.size ≤ k) (.slice A' n c') l' ∧ Grow w w' := by
  have hle := hL.row.le
  have hbig := hL.row.big
  have hln := hL.row.ocs_len
  have HL := Lib.hid hL; have HLN := Lib.hid hln; have HOS := Lib.hid hos; have HU := Lib.hid hu
  clear hL hln hos hu
  go_enter Try.func63, Try.ntmps63
  go_wp2
  go_loopw [3, 7] (fun v i wr => ∃ (j : Nat) (A1 : Option Addr) (c1 : Nat) (l1 : List (O × Value)), j ≤ n ∧ i = .int .i64 j ∧ v = .slice A1 j c1 ∧ Hid (l1.map (·.1) = os.take j) ∧ OpsOwn wr (fun k => w.heap.size ≤ k) (.slice A1 j c1) l1 ∧ Grow w wr) (fun _ i _ => n - (intOf i).toNat)
  case atStart => exact ⟨0, none, 0, [], Nat.zero_le _, rfl, rfl, by simp [Hid], OpsOwn.nil _ _, Grow.refl _⟩
  case round =>
    obtain ⟨j, A1, c1, l1, hj, rfl, rfl, hl1, own1, hg⟩ := hrel
    by_cases hlt : j < n
    · obtain ⟨⟨o, v⟩, hx⟩ : ∃ u, l[j]? = some u := ⟨_, List.getElem?_eq_getElem (by have := HLN.out; omega)⟩
      obtain ⟨A2, n2, c2, hv, hL2, -⟩ := HL.out.each (o, v) (List.mem_of_getElem? hx)
      simp only at hv hL2
      subst hv
      obtain ⟨b, off, rfl, hbs, hcell⟩ := HL.out.row.pos (by omega) (by decide)
      obtain ⟨x0, x1, x2, x3⟩ := HL.out.cells hx wr hg
      have ho : os[j]? = some o := by rw [← HOS.out, List.getElem?_map, hx]; rfl
      have hsn : (l1.map (·.1)) ++ [o] = os.take (j + 1) := by rw [hl1.out, List.take_add_one, ho]; rfl
      have hl2 := hL2.uns_len
      have hb2 := HU.out o (List.mem_of_getElem? ho)
      have O1 := Lib.hid own1; have G1 := Lib.hid hg; have L2 := Lib.hid (hL2.below (w' := wr) hg (Nat.le_refl _)); have HSN := Lib.hid hsn
      have hl1n : l1.length = j := by
        have := congrArg List.length hl1.out
        simp at this
        have h2 := congrArg List.length HOS.out
        simp at h2
        have := HLN.out
        omega
      have HN1 := Lib.hid hl1n
      rw [hl2] at hb2
      clear hx hcell own1 hg hL2 ho hsn hl1n
      go_wp2_with fail
      refine (pown_any L2.out hb2).mono ?_
      rintro e w1 ⟨A3, c3, rfl, own3, g3⟩
      have O3 := Lib.hid own3; have G3 := Lib.hid g3
      have O2 := Lib.hid (O1.out.grow g3)
      have HAP := Lib.hid (own_apart O1.out.row own3)
      clear own3 g3 x0 x1 x2 x3
      go_wp2_with (at_builtin; refine wpList_appO rfl (.tmp 10) (.tmp 16) rfl 0 _ j l1 rfl ((by have := O2.out.row; rw [HN1.out] at this; exact own_grow this (Grow.alloc _ _))) (some ⟨w1.heap.size, 0, none⟩) 1 1 [(o, .slice A3 n2 c3)] rfl (lies_op o _ rfl) (by simp [Value.oneCell']) (by omega) (Nat.zero_le _) ?_; intro A4 c4 w4 own4 gr4 fr4)
      have O4 := Lib.hid (OpsOwn.snoc (S' := fun k => w.heap.size ≤ k) (o := o) (O2.out.grow (Grow.alloc w1 (.cells #[.int .u32 o.cl, .int .u64 o.rq, .slice A3 n2 c3, .bool o.un] 67))) (by rw [hl2]; exact own_grow (O3.out.mono (Nat.zero_le _)) (Grow.alloc _ _)) (fun g hg => by have := (O3.out.lt g hg).1; have := G1.out.size; omega) HAP.out gr4 fr4 (fun _ h => h) (fun k hk => by have h1 := G1.out.size; have h2 := G3.out.size; simp at hk; omega) (by rw [HN1.out]; exact own4))
      have G4 := Lib.hid (grown_new gr4 ((G1.out.trans G3.out).trans (Grow.alloc _ _)) (fun k hk => O1.out.rowIn k hk))
      clear own4 gr4 fr4
      go_wp2
      go_roundw
      case rel => exact ⟨j + 1, A4, c4, _, by omega, by go_num, rfl, Lib.hid (by rw [← HSN.out]; simp), O4.out, G4.out⟩
      case measure => simp [intOf]; omega
    · obtain rfl : j = n := by omega
      have e : os.take j = os := List.take_of_length_le (by have h1 := HLN.out; have h2 := congrArg List.length HOS.out; rw [List.length_map] at h2; omega)
      have HL1 := Lib.hid (hl1.out.trans e)
      have O1 := Lib.hid own1; have G1 := Lib.hid hg
      clear e own1 hg hl1
      go_wp2
      go_ret
      exact ⟨A1, c1, l1, rfl, HL1.out, O1.out, G1.out⟩
end Go.Proofs.Ytfpbmpgdpnpdjaa

