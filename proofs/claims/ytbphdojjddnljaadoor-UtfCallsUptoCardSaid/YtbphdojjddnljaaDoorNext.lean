/-
  utf: the contract of first's closure.
-/
import Derived.Test.YtbphdojjddnljaaDoorEnc
namespace Go.Proofs.YtbphdojjddnljaaDoor
open Go.RowKit

/-- A box of one cell that may be written. -/
structure Box (w : World) (g : Nat) (v : Value) : Prop where
  cell : w.cell? ⟨g, 0, none⟩ = some v
  free : w.frozen? ⟨g, 0, none⟩ = false
theorem Box.lt {w : World} {g : Nat} {v : Value} (h : Box w g v) : g < w.heap.size := World.block_lt_of_cell? w _ h.cell
theorem Box.grow {w w' : World} {g : Nat} {v : Value} (h : Box w g v) (k : Grow w w') : Box w' g v := ⟨grow_cell h.cell k, (Below.frozen k (p := ⟨g, 0, none⟩) h.lt).trans h.free⟩
theorem Box.set {w : World} {g : Nat} {v : Value} (h : Box w g v) (u : Value) : Box (w.setCell ⟨g, 0, none⟩ u) g u := by
  refine ⟨?_, ?_⟩
  · exact World.cell?_setCell_same w ⟨g, 0, none⟩ u h.cell
  · rw [World.frozen?_setCell]; exact h.free
theorem Box.far {w : World} {g : Nat} {v : Value} (h : Box w g v) {p : Addr} (hp : p.block ≠ g) (u : Value) : Box (w.setCell p u) g v := by
  refine ⟨?_, ?_⟩
  · rw [World.cell?_setCell_other w p ⟨g, 0, none⟩ u (fun e => hp (by rw [e]))]; exact h.cell
  · rw [World.frozen?_setCell]; exact h.free
theorem Box.new (w : World) (v : Value) (t : TypeId) : Box (w.alloc (.cells #[v] t)) w.heap.size v := ⟨box_cell w v t, by have h := heap_alloc_new w (.cells #[v] t); unfold World.frozen?; simp only [h]; rfl⟩

def NextPost (go gc : Nat) (o : Bool) (c : Nat) (w : World) (e : Ending) (w' : World) : Prop :=
  e = .returned (.tuple #[]) ∧ Box w' go (.bool o) ∧ Box w' gc (.int .i32 (c : Int)) ∧ ∀ (B : Nat) (w0 : World), Below B w0 w → B ≤ go → B ≤ gc → Below B w0 w'
theorem nextPost_mk {go gc : Nat} {o o0 : Bool} {c c0 : Nat} {w : World} (ho : Box w go (.bool o0)) (hc : Box w gc (.int .i32 (c0 : Int))) (hne : go ≠ gc) : NextPost go gc o c w (.returned (.tuple #[])) ((w.setCell ⟨go, 0, none⟩ (.bool o)).setCell ⟨gc, 0, none⟩ (.int .i32 (c : Int))) :=
  ⟨rfl, (ho.set _).far (Ne.symm hne) _, (hc.far (p := ⟨go, 0, none⟩) hne _).set _, fun _ _ hb h1 h2 => (hb.setCell (p := ⟨go, 0, none⟩) h1 _).setCell (p := ⟨gc, 0, none⟩) h2 _⟩
set_option maxRecDepth 100000 in
theorem next_any {w : World} {go gc x c : Nat} {o : Bool} (ho : Box w go (.bool o)) (hc : Box w gc (.int .i32 (c : Int))) (hne : go ≠ gc) (hx : x < 256) (hcl : c < 1048576) :
    Calls Tryd.prog 27 #[.int .u8 (x : Int), .pointer (some ⟨go, 0, none⟩), .pointer (some ⟨gc, 0, none⟩)] w (NextPost go gc (o && decide (x / 64 = 2)) (c * 64 + x % 64) w) := by
  have c1 := ho.cell
  have f1 := ho.free
  have c2 := hc.cell
  have f2 := hc.free
  have q := nextPost_mk (o := o && decide (x / 64 = 2)) (c := c * 64 + x % 64) ho hc hne
  have e2 : ((c * 64 + x % 64 : Nat) : Int) = (c : Int) * 64 + (x : Int) % 64 := by omega
  rw [e2] at q
  cases o with
  | false =>
    rw [Bool.false_and] at q
    have HQ := Lib.hid q
    clear q e2
    go_enter Tryd.func27, Tryd.ntmps27
    go_wp2
    go_end0
    exact HQ.out
  | true =>
    rw [Bool.true_and] at q
    obtain ⟨d, hd⟩ : ∃ d, d = decide (x / 64 = 2) := ⟨_, rfl⟩
    have e3 : ((x : Int) / 64 == 2) = d := by rw [hd, Bool.eq_iff_iff, beq_iff_eq, decide_eq_true_eq]; omega
    rw [← hd] at q ⊢
    have HQ := Lib.hid q
    clear q e2 hd
    go_enter Tryd.func27, Tryd.ntmps27
    go_wp2
    go_end0
    exact HQ.out
end Go.Proofs.YtbphdojjddnljaaDoor

