/-
  lazy: a fetch in memory.
-/
import Derived.Test.YtlnokohmmhmoaaaLRise
namespace Go.Proofs.Ytlnokohmmhmoaaa
open Go.RowKit
set_option linter.unusedSimpArgs false

theorem GrowS.setCell {T : Nat → Prop} (w : World) {p : Addr} (h : T p.block) (v : Value) : GrowS T w (w.setCell p v) :=
  ⟨rfl, rfl, rfl, by simp [World.setCell], fun k _ hk => heap_setCell_other w p k v (fun e => hk (by rw [e]; exact h))⟩
theorem GrowS.setRow {T : Nat → Prop} (w : World) {g : Nat} (h : T g) (cs : Array Value) : GrowS T w (w.setRow g cs) :=
  ⟨rfl, rfl, rfl, by simp [World.setRow], fun k _ hk => setRow_other w g k cs (fun e => hk (by rw [e]; exact h))⟩
/-- Nothing below has turned, if all that may turn is new. -/
theorem GrowS.over {T : Nat → Prop} {w0 w w' : World} (h : GrowS T w w') (g : Grow w0 w) (hT : ∀ k, T k → w0.heap.size ≤ k) : Grow w0 w' :=
  Below.trans g (h.below (B := w0.heap.size) g.size (fun k hk ht => by have := hT k ht; omega))
theorem GrowS.news {T S : Nat → Prop} {w0 w w' : World} (h : GrowS T w0 w) (k : GrowS S w w') (hS : ∀ i, S i → T i ∨ w0.heap.size ≤ i) : GrowS T w0 w' :=
  ⟨k.os.trans h.os, k.tape.trans h.tape, k.output.trans h.output, Nat.le_trans h.size k.size, fun i hi hn => (k.block i (Nat.lt_of_lt_of_le hi h.size) (fun hs => by rcases hS i hs with h1 | h1; exact hn h1; omega)).trans (h.block i hi hn)⟩
theorem types_apart {w : World} {b1 b2 : Nat} {e1 e2 : TypeId} {s1 s2 n1 n2 : Nat} {V v : Value} {xs ys : List Value} (h1 : w.ownsRow b1 e1 s1 V n1 xs) (h2 : w.ownsRow b2 e2 s2 v n2 ys) (hne : e1 ≠ e2) : ∀ g, V.ownBlock = some g → v.ownBlock ≠ some g := by
  intro g hg hg2
  rcases h1.2 with ⟨rfl, -⟩ | ⟨g1, c1, cur1, rfl, -, k1, -⟩
  · cases hg
  rcases h2.2 with ⟨rfl, -⟩ | ⟨g2, c2, cur2, rfl, -, k2, -⟩
  · cases hg2
  injection hg with hg
  injection hg2 with hg2
  simp only at hg hg2
  subst hg
  subst hg2
  rw [k1] at k2
  injection k2 with k2
  injection k2 with _ k2
  exact hne k2
theorem row_apart {w : World} {b g : Nat} {e1 e2 : TypeId} {s n : Nat} {V : Value} {xs : List Value} {cs : Array Value} {m : Nat × Nat} (h1 : w.ownsRow b e1 s V n xs) (h2 : w.heap[g]? = some (.cells cs e2 m)) (hne : e1 ≠ e2) : ∀ k, V.ownBlock = some k → k ≠ g := by
  rintro k hk rfl
  rcases h1.2 with ⟨rfl, -⟩ | ⟨g1, c1, cur1, rfl, -, k1, -⟩
  · cases hk
  injection hk with hk
  simp only at hk
  subst hk
  rw [k1] at h2
  injection h2 with h2
  injection h2 with _ h2
  exact hne h2
theorem own_addr {w : World} {base : Nat} {e : TypeId} {sz n m c : Nat} {A : Option Addr} {xs : List Value} (h : w.ownsRow base e sz (.slice A n c) m xs) : ∀ a, A = some a → (Value.slice A n c).ownBlock = some a.block := by
  intro a ha
  rcases h.2 with ⟨h2, -⟩ | ⟨g, cap, cur, h2, -⟩
  · injection h2 with h2; rw [ha] at h2; cases h2
  · injection h2 with h2; rw [ha] at h2; injection h2 with h2; subst h2; subst ha; rfl
theorem own_len {w : World} {base : Nat} {e : TypeId} {sz n m c : Nat} {A : Option Addr} {xs : List Value} (h : w.ownsRow base e sz (.slice A n c) m xs) : n = m := by
  rcases h.2 with ⟨h2, rfl⟩ | ⟨g, cap, cur, h2, -⟩
  · injection h2
  · injection h2
theorem own_pos {w : World} {base : Nat} {e : TypeId} {sz n : Nat} {v : Value} {xs : List Value} (h : w.ownsRow base e sz v n xs) (hn : 0 < n) : ∃ b c, v = .slice (some ⟨b, 0, none⟩) n c := by
  rcases h.2 with ⟨h2, rfl⟩ | ⟨g, cap, cur, h2, -⟩
  · omega
  · exact ⟨g, cap, h2⟩

/-- A slice of bytes that lies in blocks of R. -/
structure BytesAt (w : World) (R : Nat → Prop) (v : Value) (bs : List Nat) : Prop where
  lies : ∃ A n c, v = .slice A n c ∧ Lies w 1 A n c (byt bs) ∧ ∀ a, A = some a → 0 < n → R a.block
theorem BytesAt.keep {w w' : World} {R T : Nat → Prop} {v : Value} {bs : List Nat} (h : BytesAt w R v bs) (g : GrowS T w w') (hT : ∀ k, R k → ¬ T k) : BytesAt w' R v bs := by
  obtain ⟨A, n, c, h1, h2, h3⟩ := h.lies
  exact ⟨A, n, c, h1, g.liesZ h2 (fun a ha h0 => hT _ (h3 a ha h0)), h3⟩
theorem BytesAt.mono {w : World} {R R' : Nat → Prop} {v : Value} {bs : List Nat} (h : BytesAt w R v bs) (hR : ∀ k, R k → R' k) : BytesAt w R' v bs := by
  obtain ⟨A, n, c, h1, h2, h3⟩ := h.lies
  exact ⟨A, n, c, h1, h2, fun a ha h0 => hR _ (h3 a ha h0)⟩
theorem BytesAt.nil (w : World) (R : Nat → Prop) : BytesAt w R (.slice none 0 0) [] := ⟨none, 0, 0, rfl, Lies.nil _ _, fun _ h => by cases h⟩
theorem BytesAt.own {w : World} {R : Nat → Prop} {base n : Nat} {v : Value} {bs : List Nat} (h : w.ownsRow base 5 1 v n (byt bs)) (hR : ∀ g, v.ownBlock = some g → R g) : BytesAt w R v bs := by
  obtain ⟨A, c, rfl, hL⟩ := own_form h
  exact ⟨A, n, c, rfl, hL, fun a ha _ => hR _ (own_addr h a ha)⟩
theorem BytesAt.oc {w : World} {R : Nat → Prop} {v : Value} {bs : List Nat} (h : BytesAt w R v bs) : v.oneCell' = true := by
  obtain ⟨A, n, c, rfl, -⟩ := h.lies
  rfl

/-- A fetch. -/
structure F where
  me : Int
  least : Nat
  hand : List Pt
  frm : Int
  op : Nat
  rest : List Nat
  docs : List Dt
  asked : Nat
  now : Nat
  vain : Nat
  fresh : Bool
/-- A fetch at p: T: the blocks that it writes; R: those that it reads. -/
structure FAt (w : World) (T R : Nat → Prop) (p : Nat) (f : F) (b : Nat) (Rv V : Value) (l : List (Dt × Value)) : Prop where
  st : w.heap[p]? = some (.cells #[.int .i64 f.me, .int .u64 f.least, .map (some b), .int .i64 f.frm, .int .u64 f.op, Rv, V, .int .u64 f.asked, .int .u64 f.now, .int .i64 f.vain, .bool f.fresh, .bool true] 66 (0, 0))
  hand : HandAt w R b f.hand
  bR : R b
  rest : BytesAt w R Rv f.rest
  docs : w.ownsRow 0 73 6 V l.length (l.flatMap dcell)
  docsT : ∀ g, V.ownBlock = some g → T g
  map : l.map (·.1) = f.docs
  each : ∀ x ∈ l, BytesAt w R x.2 x.1.bs
  pT : T p
  apart : ∀ k, T k → ¬ R k
  ltT : ∀ k, T k → k < w.heap.size
  ltR : ∀ k, R k → k < w.heap.size
def FIs (w : World) (T R : Nat → Prop) (p : Nat) (f : F) : Prop := ∃ b Rv V l, FAt w T R p f b Rv V l
theorem FAt.keep {w w' : World} {T R X : Nat → Prop} {p b : Nat} {f : F} {Rv V : Value} {l : List (Dt × Value)} (h : FAt w T R p f b Rv V l) (g : GrowS X w w') (hT : ∀ k, T k → ¬ X k) (hR : ∀ k, R k → ¬ X k) : FAt w' T R p f b Rv V l :=
  ⟨g.kept h.st (hT _ h.pT), h.hand.keep g hR (hR _ h.bR), h.bR, h.rest.keep g hR, g.own h.docs (fun k hk => hT _ (h.docsT k hk)), h.docsT, h.map, fun x hx => (h.each x hx).keep g hR, h.pT, h.apart, fun k hk => Nat.lt_of_lt_of_le (h.ltT k hk) g.size, fun k hk => Nat.lt_of_lt_of_le (h.ltR k hk) g.size⟩
theorem FAt.grow {w w' : World} {T R : Nat → Prop} {p b : Nat} {f : F} {Rv V : Value} {l : List (Dt × Value)} (h : FAt w T R p f b Rv V l) (g : Grow w w') : FAt w' T R p f b Rv V l := h.keep (g.wide NoRow) (fun _ _ k => k) (fun _ _ k => k)
theorem FIs.keep {w w' : World} {T R X : Nat → Prop} {p : Nat} {f : F} (h : FIs w T R p f) (g : GrowS X w w') (hT : ∀ k, T k → ¬ X k) (hR : ∀ k, R k → ¬ X k) : FIs w' T R p f := by
  obtain ⟨b, Rv, V, l, h⟩ := h
  exact ⟨b, Rv, V, l, h.keep g hT hR⟩
theorem FIs.grow {w w' : World} {T R : Nat → Prop} {p : Nat} {f : F} (h : FIs w T R p f) (g : Grow w w') : FIs w' T R p f := h.keep (g.wide NoRow) (fun _ _ k => k) (fun _ _ k => k)
theorem FIs.ltT {w : World} {T R : Nat → Prop} {p : Nat} {f : F} (h : FIs w T R p f) : ∀ k, T k → k < w.heap.size := by
  obtain ⟨b, Rv, V, l, h⟩ := h
  exact h.ltT
theorem FIs.ltR {w : World} {T R : Nat → Prop} {p : Nat} {f : F} (h : FIs w T R p f) : ∀ k, R k → k < w.heap.size := by
  obtain ⟨b, Rv, V, l, h⟩ := h
  exact h.ltR
section
variable {w : World} {T R : Nat → Prop} {p b : Nat} {f : F} {Rv V : Value} {l : List (Dt × Value)}
theorem FAt.c (h : FAt w T R p f b Rv V l) (i : Nat) : w.cell? ⟨p, i, none⟩ = ([.int .i64 f.me, .int .u64 f.least, .map (some b), .int .i64 f.frm, .int .u64 f.op, Rv, V, .int .u64 f.asked, .int .u64 f.now, .int .i64 f.vain, .bool f.fresh, .bool true] : List Value)[i]? := by
  rw [cell_of_row w p i _ _ (0, 0) h.st]
  simp
theorem FAt.formV (h : FAt w T R p f b Rv V l) : ∃ A c, V = .slice A l.length c := by
  obtain ⟨A, c, h1, -⟩ := own_form h.docs
  exact ⟨A, c, h1⟩
end
end Go.Proofs.Ytlnokohmmhmoaaa

