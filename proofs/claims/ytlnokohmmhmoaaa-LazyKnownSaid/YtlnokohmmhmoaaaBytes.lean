/-
  Bytes in memory: appends to a row of bytes of the call's own; literals; what is set.
-/
import Derived.Test.YtlnokohmmhmoaaaMem
import Derived.Test.YtlnokohmmhmoaaaFacts
import Derived.Test.YtlnokohmmhmoaaaRows
import Derived.Outline
import Derived.Lib.SlBytesConst
import Derived.Laws.IdiomStrings
namespace Go.Proofs.Ytlnokohmmhmoaaa
open Go.RowKit

theorem info_u8 : (Try.prog.info? 5).map (fun i => (i.zero, i.size, i.bytes)) = some (some (.int .u8 0), 1, 1) := by kernel_rfl
theorem wpList_app8 {w : World} {ops : Array Oper} {rest : List Oper} {o : Oper} {a : Act} {Q : Exit → Act → World → Prop} (hgd : o.guard = none) (s x : Operand)
    (ho : o.op = .call { callee := .builtin .append, args := #[s, x], argTypes := #[23, 23] }) (base : Nat)
    (v : Value) (n : Nat) (l : List Nat) (hs : a.eval s = v) (hown : w.ownsRow base 5 1 v n (byt l))
    (A : Option Addr) (m c : Nat) (r : List Nat) (hx : a.eval x = .slice A m c) (hr : Lies w 1 A m c (byt r)) (hsum : n + m ≤ 140737488355328) (hbase : base ≤ w.heap.size)
    (h : ∀ (A' : Option Addr) (c' : Nat) (w' : World), w'.ownsRow base 5 1 (.slice A' (n + m) c') (n + m) (byt (l ++ r)) → Lies w' 1 A' (n + m) c' (byt (l ++ r)) → (∀ (B : Nat) (w0 : World), Below B w0 w → B ≤ base → Below B w0 w') →
      wpList Try.prog ops Q rest (a.put o.dst (.slice A' (n + m) c')) w') : wpList Try.prog ops Q (o :: rest) a w := by
  obtain ⟨i0, hi, hz0, hz1, hz2⟩ := info_parts info_u8
  refine wpList_append_lies w hgd s x _ ho base 5 i0 (.int .u8 0) 1 1 Try.underlying23 hi hz0 hz1 hz2 rfl (by decide) v n (byt l) hs hown A m c (byt r) hx hr (byt_one _) (by simp only [maxLen]; omega) (by omega) hbase ?_
  intro v' w' h1 _ h3
  rw [← byt_app] at h1
  obtain ⟨A', c', rfl, h4⟩ := own_form h1
  exact h A' c' w' h1 h4 h3
theorem own_empty8 (w : World) {base g : Nat} (hb : base ≤ w.heap.size) (hg : g = w.heap.size) : (w.alloc (.cells #[] 5)).ownsRow base 5 1 (.slice (some ⟨g, 0, none⟩) 0 0) 0 (byt []) := by
  subst hg
  exact World.ownsRow_made w #[] 0 hb (by simp [maxLen]) rfl
theorem lies_mark {w : World} {e : TypeId} {cs : Array Value} {g c : Nat} {m : Nat × Nat} (l : List Nat) (n : Nat) (hg : g = w.heap.size) (h : cs.toList = byt l) (hn : l.length = n) (hc : n ≤ c) (hb : c ≤ 9223372036854775807) :
    Lies (w.alloc (.cells cs e m)) 1 (some ⟨g, 0, none⟩) n c (byt l) := by
  subst hg
  refine ⟨by rw [byt_len]; omega, fun h => by (cases h), hc, hb, fun a ha j u hu => ?_⟩
  injection ha with ha
  subst ha
  rw [add_none, cell_of_row _ w.heap.size (0 + j) cs e m (heap_alloc_new w _)]
  rw [← h] at hu
  simpa using hu
theorem lies_one {w : World} {e : TypeId} {g : Nat} (x : Nat) (hg : g = w.heap.size) : Lies (w.alloc (.cells #[.int .u8 (x : Int)] e)) 1 (some ⟨g, 0, none⟩) 1 1 (byt [x]) := lies_lit [x] 1 hg rfl rfl (by decide)
theorem own_nil8 (w : World) (b : Nat) : w.ownsRow b 5 1 (.slice none 0 0) 0 (byt []) := World.ownsRow_nil _ _ _ _
theorem byt_set (l : List Nat) (j y : Nat) : (byt l).set j (.int .u8 (y : Int)) = byt (l.set j y) := by simp [byt, List.map_set]
theorem set_back {l : List Nat} {j x : Nat} (h : l[j]? = some x) : l.set j x = l := by
  obtain ⟨hl, h⟩ := List.getElem?_eq_some_iff.1 h
  rw [← h]; exact List.set_getElem_self hl
theorem conv_const (w : World) (C : Array Value) (g n c : Nat) (hg : g = w.heap.size) : (convert 23 23 (.slice (some ⟨g, 0, none⟩) n c)).run Try.prog (w.alloc (.cells C 5)) = .ok (.slice (some ⟨g, 0, none⟩) n c) (w.alloc (.cells C 5 (C.size, C.size + 1))) := by
  subst hg
  exact Lib.run_convert_bytes_const (P := Try.prog) w 23 5 C n c Try.underlying23 Try.underlying5
theorem conv_bytes {A : Option Addr} {n c : Nat} {l : List Nat} {w : World} (h : Lies w 1 A n c (byt l)) : (convert 23 9 (.slice A n c)).run Try.prog w = .ok (.string (str l)) w :=
  run_convert_lies (P := Try.prog) h 23 5 9 Try.underlying23 Try.underlying5 Try.underlying9
theorem conv_string (w : World) (s : ByteArray) (l : List Nat) (n : Nat) (hs : s.data.toList = l.map UInt8.ofNat) (hl : ∀ x ∈ l, x < 256) (hn : l.length = n) (hb : n ≤ 4611686018427387904) :
    ∃ (c : Nat) (w' : World), (convert 9 23 (.string s)).run Try.prog w = .ok (.slice (some ⟨w.heap.size, 0, none⟩) n c) w' ∧ Lies w' 1 (some ⟨w.heap.size, 0, none⟩) n c (byt l) ∧ Grow w w' := by
  have hsz : s.data.size = n := by have := congrArg List.length hs; simpa [hn] using this
  have hsz2 : s.size = n := hsz
  have hr := run_bytes_of_string (P := Try.prog) w 9 23 5 s Try.underlying9 Try.underlying23 Try.underlying5
  rw [hsz2] at hr
  refine ⟨_, _, hr, ⟨by rw [byt_len]; omega, fun h => by (cases h), grownCap_ge w n 0 _, by have := grownCap_le_maxLen w n 0 5 (by simp only [maxLen]; omega); simpa only [maxLen] using this, fun a ha j u hu => ?_⟩, (Grow.drew w).trans (Grow.alloc _ _)⟩
  injection ha with ha
  subst ha
  obtain ⟨ch, hc, rfl⟩ := byt_get _ _ _ hu
  have hj : j < s.data.size := by have := (List.getElem?_eq_some_iff.1 hc).1; omega
  have h1 := World.cell?_alloc_mark w.drew (bytesRow s (grownCap w n 0 5)) 5 ((bytesRow s (grownCap w n 0 5)).size, (bytesRow s (grownCap w n 0 5)).size + 1) j
  have e0 : (⟨w.heap.size, 0, none⟩ : Addr).add j = ⟨w.drew.heap.size, j, none⟩ := by rw [add_none, Nat.zero_add]; rfl
  rw [e0, h1, bytesRow_at s _ j hj]
  have h2 : s.data.toList[j]? = (l.map UInt8.ofNat)[j]? := by rw [hs]
  rw [List.getElem?_map, hc, Array.getElem?_toList, Array.getElem?_eq_getElem hj] at h2
  simp only [Option.map_some, Option.some.injEq] at h2
  rw [h2]
  have := hl ch (List.mem_of_getElem? hc)
  simp only [UInt8.toNat_ofNat', Nat.reducePow]
  rw [Nat.mod_eq_of_lt this]
end Go.Proofs.Ytlnokohmmhmoaaa

