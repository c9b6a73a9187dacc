/-
  lazy: bytes.Equal of equal bytes; msg.Same of one question twice.
-/
import Derived.Test.YtlnokohmmhmoaaaLMsg
namespace Go.Proofs.Ytlnokohmmhmoaaa
open Go.RowKit
set_option linter.unusedSimpArgs false

set_option maxRecDepth 100000 in
theorem equal_same {A B : Option Addr} {n c m d : Nat} {l : List Nat} {w : World} (h1 : Lies w 1 A n c (byt l)) (h2 : Lies w 1 B m d (byt l)) :
    Calls Try.prog 20 #[.slice A n c, .slice B m d] w fun e w' => e = .returned (.bool true) ∧ w = w' := by
  have k1 := conv_bytes h1
  have k2 := conv_bytes h2
  clear h1 h2
  generalize str l = s at k1 k2
  go_enter Try.func20, Try.ntmps20
  go_wp2
  go_ret
  simp
set_option maxRecDepth 100000 in
theorem deq_nil {w : World} : Calls Try.prog 31 #[.slice none 0 0, .slice none 0 0] w fun e w' => e = .returned (.bool true) ∧ Grow w w' := by
  go_enter Try.func31, Try.ntmps31
  go_wp2_with fail
  go_loopw [13] (fun i wr => i = .int .i64 0 ∧ Grow w wr) (fun _ _ => 0)
  case atStart => exact ⟨rfl, Grow.refl _⟩
  case round =>
    obtain ⟨rfl, hg⟩ := hrel
    go_wp2
    go_ret
    exact ⟨rfl, hg⟩
set_option maxRecDepth 100000 in
set_option maxHeartbeats 4000000 in
theorem msame_ask {k frm op doc off tot : Int} {w : World} :
    Calls Try.prog 13 #[.agg #[.int .i64 k, .int .u64 0, .int .i64 frm, .int .u32 0, .int .u64 0, .int .u64 0, .int .u64 op, .int .u64 0, .int .u64 0, .int .u64 0, .int .u64 0, .int .u32 0, .int .u64 0, .slice none 0 0, .int .u32 doc, .int .i64 off, .int .i64 tot, .bool false, .slice none 0 0, .slice none 0 0], .agg #[.int .i64 k, .int .u64 0, .int .i64 frm, .int .u32 0, .int .u64 0, .int .u64 0, .int .u64 op, .int .u64 0, .int .u64 0, .int .u64 0, .int .u64 0, .int .u32 0, .int .u64 0, .slice none 0 0, .int .u32 doc, .int .i64 off, .int .i64 tot, .bool false, .slice none 0 0, .slice none 0 0]] w fun e w' => e = .returned (.bool true) ∧ Grow w w' := by
  go_enter Try.func13, Try.ntmps13
  go_upto_region 1 with fail
  have m1 := MsgAt.new w k frm op doc off tot (.slice none 0 0) (.slice none 0 0)
  have g1 := Grow.alloc w (.cells #[.int .i64 k, .int .u64 0, .int .i64 frm, .int .u32 0, .int .u64 0, .int .u64 0, .int .u64 op, .int .u64 0, .int .u64 0, .int .u64 0, .int .u64 0, .int .u32 0, .int .u64 0, .slice none 0 0, .int .u32 doc, .int .i64 off, .int .i64 tot, .bool false, .slice none 0 0, .slice none 0 0] 42)
  have hs1 : (w.alloc (.cells #[.int .i64 k, .int .u64 0, .int .i64 frm, .int .u32 0, .int .u64 0, .int .u64 0, .int .u64 op, .int .u64 0, .int .u64 0, .int .u64 0, .int .u64 0, .int .u32 0, .int .u64 0, .slice none 0 0, .int .u32 doc, .int .i64 off, .int .i64 tot, .bool false, .slice none 0 0, .slice none 0 0] 42)).heap.size = w.heap.size + 1 := Array.size_push _
  generalize w.alloc (.cells #[.int .i64 k, .int .u64 0, .int .i64 frm, .int .u32 0, .int .u64 0, .int .u64 0, .int .u64 op, .int .u64 0, .int .u64 0, .int .u64 0, .int .u64 0, .int .u32 0, .int .u64 0, .slice none 0 0, .int .u32 doc, .int .i64 off, .int .i64 tot, .bool false, .slice none 0 0, .slice none 0 0] 42) = w1 at *
  have m2 := MsgAt.new w1 k frm op doc off tot (.slice none 0 0) (.slice none 0 0)
  have g2 := Grow.alloc w1 (.cells #[.int .i64 k, .int .u64 0, .int .i64 frm, .int .u32 0, .int .u64 0, .int .u64 0, .int .u64 op, .int .u64 0, .int .u64 0, .int .u64 0, .int .u64 0, .int .u32 0, .int .u64 0, .slice none 0 0, .int .u32 doc, .int .i64 off, .int .i64 tot, .bool false, .slice none 0 0, .slice none 0 0] 42)
  rw [hs1] at m2
  have n1 := m1.grow g2
  generalize w1.alloc (.cells #[.int .i64 k, .int .u64 0, .int .i64 frm, .int .u32 0, .int .u64 0, .int .u64 0, .int .u64 op, .int .u64 0, .int .u64 0, .int .u64 0, .int .u64 0, .int .u32 0, .int .u64 0, .slice none 0 0, .int .u32 doc, .int .i64 off, .int .i64 tot, .bool false, .slice none 0 0, .slice none 0 0] 42) = w2 at *
  have G := Lib.hid (g1.trans g2)
  clear g1 g2 hs1
  generalize w.heap.size = p1 at *
  have a0 : w2.cell? ⟨p1, 0, none⟩ = some (.int .i64 k) := n1.load 0
  have a1 : w2.cell? ⟨p1, 1, none⟩ = some (.int .u64 0) := n1.load 1
  have a2 : w2.cell? ⟨p1, 2, none⟩ = some (.int .i64 frm) := n1.load 2
  have a3 : w2.cell? ⟨p1, 3, none⟩ = some (.int .u32 0) := n1.load 3
  have a4 : w2.cell? ⟨p1, 4, none⟩ = some (.int .u64 0) := n1.load 4
  have a5 : w2.cell? ⟨p1, 5, none⟩ = some (.int .u64 0) := n1.load 5
  have a6 : w2.cell? ⟨p1, 6, none⟩ = some (.int .u64 op) := n1.load 6
  have a7 : w2.cell? ⟨p1, 7, none⟩ = some (.int .u64 0) := n1.load 7
  have a8 : w2.cell? ⟨p1, 8, none⟩ = some (.int .u64 0) := n1.load 8
  have a9 : w2.cell? ⟨p1, 9, none⟩ = some (.int .u64 0) := n1.load 9
  have a10 : w2.cell? ⟨p1, 10, none⟩ = some (.int .u64 0) := n1.load 10
  have a11 : w2.cell? ⟨p1, 11, none⟩ = some (.int .u32 0) := n1.load 11
  have a12 : w2.cell? ⟨p1, 12, none⟩ = some (.int .u64 0) := n1.load 12
  have a13 : w2.cell? ⟨p1, 13, none⟩ = some (.slice none 0 0) := n1.load 13
  have a14 : w2.cell? ⟨p1, 14, none⟩ = some (.int .u32 doc) := n1.load 14
  have a15 : w2.cell? ⟨p1, 15, none⟩ = some (.int .i64 off) := n1.load 15
  have a16 : w2.cell? ⟨p1, 16, none⟩ = some (.int .i64 tot) := n1.load 16
  have a17 : w2.cell? ⟨p1, 17, none⟩ = some (.bool false) := n1.load 17
  have a18 : w2.cell? ⟨p1, 18, none⟩ = some (.slice none 0 0) := n1.load 18
  have a19 : w2.cell? ⟨p1, 19, none⟩ = some (.slice none 0 0) := n1.load 19
  have b0 : w2.cell? ⟨p1 + 1, 0, none⟩ = some (.int .i64 k) := m2.load 0
  have b1 : w2.cell? ⟨p1 + 1, 1, none⟩ = some (.int .u64 0) := m2.load 1
  have b2 : w2.cell? ⟨p1 + 1, 2, none⟩ = some (.int .i64 frm) := m2.load 2
  have b3 : w2.cell? ⟨p1 + 1, 3, none⟩ = some (.int .u32 0) := m2.load 3
  have b4 : w2.cell? ⟨p1 + 1, 4, none⟩ = some (.int .u64 0) := m2.load 4
  have b5 : w2.cell? ⟨p1 + 1, 5, none⟩ = some (.int .u64 0) := m2.load 5
  have b6 : w2.cell? ⟨p1 + 1, 6, none⟩ = some (.int .u64 op) := m2.load 6
  have b7 : w2.cell? ⟨p1 + 1, 7, none⟩ = some (.int .u64 0) := m2.load 7
  have b8 : w2.cell? ⟨p1 + 1, 8, none⟩ = some (.int .u64 0) := m2.load 8
  have b9 : w2.cell? ⟨p1 + 1, 9, none⟩ = some (.int .u64 0) := m2.load 9
  have b10 : w2.cell? ⟨p1 + 1, 10, none⟩ = some (.int .u64 0) := m2.load 10
  have b11 : w2.cell? ⟨p1 + 1, 11, none⟩ = some (.int .u32 0) := m2.load 11
  have b12 : w2.cell? ⟨p1 + 1, 12, none⟩ = some (.int .u64 0) := m2.load 12
  have b13 : w2.cell? ⟨p1 + 1, 13, none⟩ = some (.slice none 0 0) := m2.load 13
  have b14 : w2.cell? ⟨p1 + 1, 14, none⟩ = some (.int .u32 doc) := m2.load 14
  have b15 : w2.cell? ⟨p1 + 1, 15, none⟩ = some (.int .i64 off) := m2.load 15
  have b16 : w2.cell? ⟨p1 + 1, 16, none⟩ = some (.int .i64 tot) := m2.load 16
  have b17 : w2.cell? ⟨p1 + 1, 17, none⟩ = some (.bool false) := m2.load 17
  have b18 : w2.cell? ⟨p1 + 1, 18, none⟩ = some (.slice none 0 0) := m2.load 18
  have b19 : w2.cell? ⟨p1 + 1, 19, none⟩ = some (.slice none 0 0) := m2.load 19
  clear m1 m2 n1
  go_wp2_with fail
  refine (equal_same (l := []) (Lies.nil _ _) (Lies.nil _ _)).mono ?_
  rintro e w3 ⟨rfl, rfl⟩
  go_wp2_with fail
  refine (equal_same (l := []) (Lies.nil _ _) (Lies.nil _ _)).mono ?_
  rintro e w3 ⟨rfl, rfl⟩
  go_wp2_with fail
  refine deq_nil.mono ?_
  rintro e w3 ⟨rfl, g3⟩
  go_wp2
  go_ret
  exact ⟨rfl, G.out.trans g3⟩
end Go.Proofs.Ytlnokohmmhmoaaa

