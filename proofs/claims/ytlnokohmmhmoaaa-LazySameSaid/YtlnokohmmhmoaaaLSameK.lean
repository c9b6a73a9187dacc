/-
  lazy: LazySame: the messages that were sent; what the law's own code calls.
-/
import Derived.Test.YtlnokohmmhmoaaaLSameI
import Derived.Test.YtlnokohmmhmoaaaLQ
import Derived.Deep.MidRow
namespace Go.Proofs.Ytlnokohmmhmoaaa
open Go.RowKit
set_option linter.unusedSimpArgs false

/-- A message of the node that serves. -/
structure Om where
  kd : Int
  doc : Int
  off : Int
  tot : Int
  X : Value
  Y : Value
instance : Inhabited Om := ⟨⟨0, 0, 0, 0, .slice none 0 0, .slice none 0 0⟩⟩
def mcell (q : Nat) (m : Om) : List Value := (#[.int .i64 m.kd, .int .u64 0, .int .i64 5, .int .u32 0, .int .u64 0, .int .u64 0, .int .u64 q, .int .u64 0, .int .u64 0, .int .u64 0, .int .u64 0, .int .u32 0, .int .u64 0, .slice none 0 0, .int .u32 m.doc, .int .i64 m.off, .int .i64 m.tot, .bool false, m.X, m.Y] : Array Value).toList
theorem mcell_len (q : Nat) (m : Om) : (mcell q m).length = 20 := rfl
def OmAt (w : World) (g q : Nat) (m : Om) : Prop := MsgAt w g m.kd 5 q m.doc m.off m.tot m.X m.Y
/-- It tells of the state. -/
def Told (w : World) (N : Nat → Prop) (ps : List Pt) (rest : List Nat) (m : Om) : Prop :=
  (m.kd = 15 ∧ ∃ (A : Option Addr) (n c : Nat) (B : Option Addr) (e d : Nat), m.X = .slice A n c ∧ m.Y = .slice B e d ∧ PlanAt w N m.X m.Y rest ps) ∨
  (m.kd = 17 ∧ ∃ (i : Nat) (x : Pt) (off : Nat) (A : Option Addr) (k c : Nat), ps[i]? = some x ∧ m.doc = (x.doc : Nat) ∧ m.off = (off : Nat) ∧ m.tot = (x.bs.length : Nat) ∧ m.X = .slice A k c ∧ m.Y = .slice none 0 0 ∧ BytesAt w N m.X (pieceB x off))
/-- It is the answer that a fetch waits for. -/
def Ans (ps : List Pt) (f : F) (m : Om) : Prop :=
  (f.frm < 0 ∧ m.kd = 15) ∨ (0 ≤ f.frm ∧ m.kd = 17 ∧ ∃ (i : Nat) (x : Pt) (d : Dt), ps[i]? = some x ∧ f.docs[i]? = some d ∧ d.all = false ∧ m.doc = (x.doc : Nat) ∧ m.off = (d.bs.length : Nat))
section
variable {w w' : World} {N N' T R : Nat → Prop} {ps : List Pt} {rest : List Nat} {m : Om} {q p least now : Nat} {hand : List Pt} {f : F}
theorem Told.keep (h : Told w N ps rest m) (g : GrowS T w w') (hT : ∀ k, N k → ¬ T k) : Told w' N ps rest m := by
  rcases h with ⟨h1, A, n, c, B, e, d, h2, h3, h4⟩ | ⟨h1, i, x, off, A, k, c, h2, h3, h4, h5, h6, h7, h8⟩
  · exact .inl ⟨h1, A, n, c, B, e, d, h2, h3, h4.keep g hT⟩
  · exact .inr ⟨h1, i, x, off, A, k, c, h2, h3, h4, h5, h6, h7, h8.keep g hT⟩
theorem Told.mono (h : Told w N ps rest m) (hN : ∀ k, N k → N' k) : Told w N' ps rest m := by
  rcases h with ⟨h1, A, n, c, B, e, d, h2, h3, h4⟩ | ⟨h1, i, x, off, A, k, c, h2, h3, h4, h5, h6, h7, h8⟩
  · exact .inl ⟨h1, A, n, c, B, e, d, h2, h3, h4.mono hN⟩
  · exact .inr ⟨h1, i, x, off, A, k, c, h2, h3, h4, h5, h6, h7, h8.mono hN⟩
theorem Told.form (h : Told w N ps rest m) : ∃ (A : Option Addr) (n c : Nat) (B : Option Addr) (e d : Nat), m.X = .slice A n c ∧ m.Y = .slice B e d := by
  rcases h with ⟨h1, A, n, c, B, e, d, h2, h3, h4⟩ | ⟨h1, i, x, off, A, k, c, h2, h3, h4, h5, h6, h7, h8⟩
  · exact ⟨A, n, c, B, e, d, h2, h3⟩
  · exact ⟨A, k, c, none, 0, 0, h6, h7⟩
theorem Told.oc (h : Told w N ps rest m) : ∀ v ∈ mcell q m, v.oneCell' = true := by
  obtain ⟨A, n, c, B, e, d, h1, h2⟩ := h.form
  have := msg_oc (k := m.kd) (fr := 5) (op := q) (d := m.doc) (of := m.off) (tt := m.tot) (A := A) (B := B) (n := n) (c := c) (m := e) (e := d)
  rw [← h1, ← h2, Array.all_eq_true_iff_forall_mem] at this
  intro v hv
  exact this v (Array.mem_toList_iff.1 hv)
/-- What a fetch is behind a message. -/
structure Fed (ps : List Pt) (q least : Nat) (hand : List Pt) (rest : List Nat) (now : Nat) (f f' : F) : Prop where
  wel : Wel ps q least hand rest now f'
  pg : Pg ps f f'
  asked : f'.asked = f.asked
def FedPost (T R : Nat → Prop) (p : Nat) (ps : List Pt) (q least : Nat) (hand : List Pt) (rest : List Nat) (now : Nat) (f : F) (X : F → Prop) (w : World) (e : Ending) (w' : World) : Prop :=
  (∃ c : Int, e = .returned (.int .i64 c)) ∧ ∃ (T' R' : Nat → Prop) (f' : F), GrowS T w w' ∧ FIs w' T' R' p f' ∧ (∀ k, T' k → T k ∨ w.heap.size ≤ k) ∧ (∀ k, R' k → R k ∨ w.heap.size ≤ k) ∧ Fed ps q least hand rest now f f' ∧ X f'
theorem feed_plan (h : FIs w T R p f) (hw : Wel ps q least hand rest now f) (ht : Told w N ps rest m) (hN : ∀ k, N k → ¬ T k) (hg : GoodPs ps) (hr : rest.length ≤ 300) (hop : least ≤ q) (hh : ∀ x ∈ hand, x.bs.length ≤ 1000) (ho : HandOk hand ps) (h15 : m.kd = 15 → m.doc = 0 ∧ m.off = 0 ∧ m.tot = 0) :
    Calls Try.prog 17 #[.pointer (some ⟨p, 0, none⟩), .agg #[.int .i64 m.kd, .int .u64 0, .int .i64 5, .int .u32 0, .int .u64 0, .int .u64 0, .int .u64 q, .int .u64 0, .int .u64 0, .int .u64 0, .int .u64 0, .int .u32 0, .int .u64 0, .slice none 0 0, .int .u32 m.doc, .int .i64 m.off, .int .i64 m.tot, .bool false, m.X, m.Y]] w (FedPost T R p ps q least hand rest now f (fun f' => f.frm < 0 → m.kd = 15 → f'.fresh = true) w) := by
  obtain ⟨A, n, c, B, e, d, h1, h2⟩ := ht.form
  by_cases hc : m.kd = 15 ∧ f.frm < 0
  · obtain ⟨hk, hneg⟩ := hc
    obtain ⟨z1, z2, z3⟩ := h15 hk
    rcases ht with ⟨-, A, n, c, B, e, d, h1, h2, h4⟩ | ⟨h5, -⟩
    · rw [hk, z1, z2, z3, h1, h2]
      rw [h1, h2] at h4
      refine (f_plan (op := q) h hneg (by rw [hw.lst]; exact hop) (by rw [hw.me]; decide) (by decide) (by decide) h4 hN hg hr (by rw [hw.hnd]; exact hh)).mono ?_
      rintro e w' ⟨rfl, g, T', R', F', hT, hR⟩
      exact ⟨⟨_, rfl⟩, T', R', _, g, F', hT, hR, ⟨hw.plan ho, pg_plan hneg, rfl⟩, fun _ _ => rfl⟩
    · omega
  · rw [h1, h2]
    refine (plan_state h (by
      by_cases hk : m.kd = 15
      · exact .inr (by have : ¬ f.frm < 0 := fun hn => hc ⟨hk, hn⟩; omega)
      · exact .inl hk)).mono ?_
    rintro e w' ⟨rfl, g⟩
    exact ⟨⟨_, rfl⟩, T, R, f, g.wide T, h.grow g, fun k hk => .inl hk, fun k hk => .inl hk, ⟨hw, Pg.refl, rfl⟩, fun h3 h4 => absurd ⟨h4, h3⟩ hc⟩
theorem feed_take (h : FIs w T R p f) (hw : Wel ps q least hand rest now f) (ht : Told w N ps rest m) (hN : ∀ k, N k → ¬ T k) (hg : GoodPs ps) :
    Calls Try.prog 18 #[.pointer (some ⟨p, 0, none⟩), .agg #[.int .i64 m.kd, .int .u64 0, .int .i64 5, .int .u32 0, .int .u64 0, .int .u64 0, .int .u64 q, .int .u64 0, .int .u64 0, .int .u64 0, .int .u64 0, .int .u32 0, .int .u64 0, .slice none 0 0, .int .u32 m.doc, .int .i64 m.off, .int .i64 m.tot, .bool false, m.X, m.Y]] w (FedPost T R p ps q least hand rest now f (fun f' => 0 ≤ f.frm → Ans ps f m → f'.fresh = true) w) := by
  obtain ⟨A, n, c, B, e, d, h1, h2⟩ := ht.form
  by_cases hc : m.kd = 17 ∧ 0 ≤ f.frm
  · obtain ⟨hk, hpos⟩ := hc
    rcases ht with ⟨h5, -⟩ | ⟨-, i, x, off, A, k, c, hx, hd, hof, htot, h1, h2, h8⟩
    · omega
    · obtain ⟨hgo, hfrm⟩ := hw.zs hpos
      rw [hk, hd, hof, htot, h1, h2]
      rw [h1] at h8
      refine (f_take (rest := rest) h hgo (by decide) hg hx h8 hN).mono ?_
      rintro e w' (⟨c, rfl, g, hno⟩ | ⟨d, hdd, hz, ha, rfl, rfl, g, R', F', hR⟩)
      · refine ⟨⟨_, rfl⟩, T, R, f, g.wide T, h.grow g, fun k hk => .inl hk, fun k hk => .inl hk, ⟨hw, Pg.refl, rfl⟩, fun _ hA => ?_⟩
        rcases hA with ⟨h3, -⟩ | ⟨-, -, i2, x2, d2, h4, h5, h6, h7, h9⟩
        · omega
        · rw [hd] at h7
          have h10 := hg.num i x hx
          have h11 := hg.num i2 x2 h4
          obtain rfl : i2 = i := by omega
          rw [hof] at h9
          exact absurd ⟨h6, by omega⟩ (hno d2 h5)
      · exact ⟨⟨_, rfl⟩, T, R', _, g, F', fun k hk => .inl hk, hR, ⟨(hw.take hpos hz ha).1, hw.pgTake hpos hz ha, rfl⟩, fun _ _ => rfl⟩
  · rw [h1, h2]
    refine (take_state h (by
      by_cases hk : m.kd = 17
      · exact .inr (by have : ¬ 0 ≤ f.frm := fun hn => hc ⟨hk, hn⟩; omega)
      · exact .inl hk)).mono ?_
    rintro e w' ⟨rfl, g⟩
    refine ⟨⟨_, rfl⟩, T, R, f, g.wide T, h.grow g, fun k hk => .inl hk, fun k hk => .inl hk, ⟨hw, Pg.refl, rfl⟩, fun h3 hA => ?_⟩
    rcases hA with ⟨h4, -⟩ | ⟨h4, h5, -⟩
    · omega
    · exact absurd ⟨h5, h4⟩ hc
end
theorem info_msg : (Try.prog.info? 42).map (fun i => (i.zero, i.size, i.bytes)) = some (some (.agg #[.int .i64 0, .int .u64 0, .int .i64 0, .int .u32 0, .int .u64 0, .int .u64 0, .int .u64 0, .int .u64 0, .int .u64 0, .int .u64 0, .int .u64 0, .int .u32 0, .int .u64 0, .slice none 0 0, .int .u32 0, .int .i64 0, .int .i64 0, .bool false, .slice none 0 0, .slice none 0 0]), 20, 208) := by kernel_rfl
theorem wpList_appM {w : World} {ops : Array Oper} {rest : List Oper} {o : Oper} {a : Act} {Q : Exit → Act → World → Prop} {q : Nat} (hgd : o.guard = none) (s x : Operand)
    (ho : o.op = .call { callee := .builtin .append, args := #[s, x], argTypes := #[56, 56] }) (base : Nat)
    (v : Value) (n : Nat) (l : List Om) (hs : a.eval s = v) (hown : w.ownsRow base 42 20 v n (l.flatMap (mcell q)))
    (A : Option Addr) (m c : Nat) (r : List Om) (hx : a.eval x = .slice A m c) (hr : Lies w 20 A m c (r.flatMap (mcell q))) (hoc : ∀ x ∈ r, ∀ v ∈ mcell q x, v.oneCell' = true) (hsum : (n + m) * 208 ≤ 140737488355328) (hbase : base ≤ w.heap.size)
    (h : ∀ (A' : Option Addr) (c' : Nat) (w' : World), w'.ownsRow base 42 20 (.slice A' (n + m) c') (n + m) ((l ++ r).flatMap (mcell q)) → w.grownBy w' v.ownBlock → Fresh w v (.slice A' (n + m) c') →
      wpList Try.prog ops Q rest (a.put o.dst (.slice A' (n + m) c')) w') : wpList Try.prog ops Q (o :: rest) a w := by
  obtain ⟨i0, hi, hz0, hz1, hz2⟩ := info_parts info_msg
  refine wpList_append_fresh w hgd s x _ ho base 42 i0 _ 20 208 Try.underlying56 hi hz0 hz1 hz2 rfl (by decide) v n _ hs hown A m c _ hx hr (flat_oc _ fun x hx => hoc x hx) (by simp only [maxLen]; omega) hsum hbase ?_
  intro v' w' h1 h2 h3
  rw [← List.flatMap_append] at h1
  obtain ⟨A', c', rfl, h4⟩ := own_form h1
  exact h A' c' w' h1 h2 h3
theorem lies_om {w : World} {g q : Nat} {m : Om} (h : OmAt w g q m) : Lies w 20 (some ⟨g, 0, none⟩) 1 1 ([m].flatMap (mcell q)) := by
  refine ⟨rfl, fun h => by (cases h), Nat.le_refl _, by decide, fun a ha j u hu => ?_⟩
  injection ha with ha
  subst ha
  rw [add_none, Nat.zero_add, h.load j]
  have e : [m].flatMap (mcell q) = mcell q m := by simp
  rw [e] at hu
  unfold mcell at hu
  rw [← hu, Array.getElem?_toList]
/-- A message out of the row of those that were sent. -/
theorem wpList_loadO {ops : Array Oper} {rest : List Oper} {o : Oper} {a : Act} {Q : Exit → Act → World → Prop} {w : World} {x : Operand} {b n c q i : Nat} {l : List Om} {m : Om} (hgd : o.guard = none) (ho : o.op = .load 42 x) (hx : a.eval x = .pointer (some ⟨b, i * 20, none⟩)) (h : Lies w 20 (some ⟨b, 0, none⟩) n c (l.flatMap (mcell q))) (hm : l[i]? = some m)
    (hK : wpList Try.prog ops Q rest (a.put o.dst (.agg #[.int .i64 m.kd, .int .u64 0, .int .i64 5, .int .u32 0, .int .u64 0, .int .u64 0, .int .u64 q, .int .u64 0, .int .u64 0, .int .u64 0, .int .u64 0, .int .u32 0, .int .u64 0, .slice none 0 0, .int .u32 m.doc, .int .i64 m.off, .int .i64 m.tot, .bool false, m.X, m.Y])) w) : wpList Try.prog ops Q (o :: rest) a w := by
  refine wpList_load_mid hgd 42 x ho b (i * 20) hx (mcell q m) _ (fun j v hv => ?_) Try.underlying42 rfl (by rw [mcell_len]; kernel_rfl) ?_
  · have := Lies.flat_cell (mcell_len q) h hm hv
    rwa [Nat.zero_add] at this
  · have e : (mcell q m).toArray = (#[.int .i64 m.kd, .int .u64 0, .int .i64 5, .int .u32 0, .int .u64 0, .int .u64 0, .int .u64 q, .int .u64 0, .int .u64 0, .int .u64 0, .int .u64 0, .int .u32 0, .int .u64 0, .slice none 0 0, .int .u32 m.doc, .int .i64 m.off, .int .i64 m.tot, .bool false, m.X, m.Y] : Array Value) := by unfold mcell; exact Array.toArray_toList
    rw [e]
    exact hK
/-- How many messages went already. -/
def KAt (w : World) (g k : Nat) : Prop := w.heap[g]? = some (.cells #[.int .i64 k] 3 (0, 0))
set_option maxRecDepth 100000 in
theorem gone_any {w : World} {kb lb k n c : Nat} {A : Option Addr} {ls : List Bool} (hk : KAt w kb k) (hl : w.cell? ⟨lb, 0, none⟩ = some (.slice A n c)) (hne : lb ≠ kb) (hL : Lies w 1 A n c (ls.map .bool)) (hA : ∀ a, A = some a → 0 < n → a.block ≠ kb) (hkb : k ≤ 1000000) :
    Calls Try.prog 21 #[.pointer (some ⟨kb, 0, none⟩), .pointer (some ⟨lb, 0, none⟩)] w fun e w' => ∃ b : Bool, e = .returned (.bool b) ∧ (b = true → k + 1 ≤ 60) ∧ GrowS (fun j => j = kb) w w' ∧ KAt w' kb (k + 1) := by
  have c0 : w.cell? ⟨kb, 0, none⟩ = some (.int .i64 k) := cell_of_row w kb 0 _ _ (0, 0) hk
  have e0 := frozen_of_row w kb 0 _ _ hk
  have st := heap_setCell_same w kb 0 _ _ (.int .i64 ((k : Int) + 1)) hk
  have gs := GrowS.setCell (T := fun j => j = kb) w (p := ⟨kb, 0, none⟩) rfl (.int .i64 ((k : Int) + 1))
  have hk2 : KAt (w.setCell ⟨kb, 0, none⟩ (.int .i64 ((k : Int) + 1))) kb (k + 1) := by
    unfold KAt
    rw [st]
    simp
  have c1 : (w.setCell ⟨kb, 0, none⟩ (.int .i64 ((k : Int) + 1))).cell? ⟨kb, 0, none⟩ = some (.int .i64 ((k : Int) + 1)) := by
    have := cell_of_row _ kb 0 _ _ (0, 0) hk2
    simpa using this
  have l1 : (w.setCell ⟨kb, 0, none⟩ (.int .i64 ((k : Int) + 1))).cell? ⟨lb, 0, none⟩ = some (.slice A n c) := by
    rw [World.cell?_setCell_other]
    · exact hl
    · intro e; injection e with e; exact hne e.symm
  have HL := Lib.hid (gs.liesZ hL (fun a ha h0 => hA a ha h0))
  have GS := Lib.hid gs; have HK2 := Lib.hid hk2
  clear st gs hk2 hk hL
  go_enter Try.func21, Try.ntmps21
  go_upto_region 2 with fail
  generalize w.setCell ⟨kb, 0, none⟩ (.int .i64 ((k : Int) + 1)) = w1 at *
  clear c0 e0 hl
  by_cases h1 : k + 1 ≤ n
  · have d1 : decide ((k : Int) + 1 ≤ (n : Int)) = true := by simp; omega
    by_cases h2 : k + 1 ≤ 60
    · have d2 : decide ((k : Int) + 1 ≤ 60) = true := by simp; omega
      obtain ⟨hb, ho, rfl, -, -⟩ := HL.out.pos (by omega) (by decide)
      have hls : ls.length = n := by have := HL.out.len; rw [List.length_map, Nat.mul_one] at this; exact this
      have b0 := HL.out.cells _ rfl k (.bool ls[k]) (by rw [List.getElem?_map, List.getElem?_eq_getElem (by omega)]; rfl)
      rw [add_none] at b0
      have i0 : (0 : Int) ≤ (k : Int) := by omega
      have i1 : (k : Int) < (n : Int) := by omega
      generalize ls[k] = bb at b0
      have H2 := Lib.hid h2
      clear h1 h2
      go_wp2
      go_ret
      exact ⟨_, rfl, fun _ => H2.out, GS.out, HK2.out⟩
    · have d2 : decide ((k : Int) + 1 ≤ 60) = false := by simp; omega
      clear h1 h2
      go_wp2
      go_ret
      exact ⟨_, rfl, fun h => (by cases h), GS.out, HK2.out⟩
  · have d1 : decide ((k : Int) + 1 ≤ (n : Int)) = false := by simp; omega
    clear h1
    go_wp2
    go_ret
    exact ⟨_, rfl, fun h => (by cases h), GS.out, HK2.out⟩
end Go.Proofs.Ytlnokohmmhmoaaa

