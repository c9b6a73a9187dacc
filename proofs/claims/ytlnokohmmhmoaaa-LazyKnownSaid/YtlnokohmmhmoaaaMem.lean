/-
  Own small lemmas on memory, over any program: how a slice lies in memory ('Lies'), and an append whose source lies so, nil and empty ones too.
-/
import Derived.WalkKit
import Derived.WalkSpells
import Derived.WalkLawsBesides
import Derived.Laws.AppendOwnNone
import Derived.Laws.OwnMore
import Derived.Laws.BytesArg
import Derived.DataReads
import Derived.Lib.Hide
import Derived.Deep.Draws
namespace Go.Proofs.Ytlnokohmmhmoaaa
open Go.RowKit

/-- A slice of n elements of sz cells each, at A, of capacity c: its cells are xs. -/
structure Lies (w : World) (sz : Nat) (A : Option Addr) (n c : Nat) (xs : List Value) : Prop where
  len : xs.length = n * sz
  nilc : A = none → c = 0
  le : n ≤ c
  big : c ≤ 9223372036854775807
  cells : ∀ a, A = some a → ∀ j u, xs[j]? = some u → w.cell? (a.add j) = some u

theorem add_none (b o j : Nat) : (⟨b, o, none⟩ : Addr).add j = ⟨b, o + j, none⟩ := by unfold Addr.add; split <;> simp_all
theorem add_block (a : Addr) (j : Nat) : (a.add j).block = a.block := by unfold Addr.add; split <;> rfl

section
variable {w w' : World} {sz : Nat} {A : Option Addr} {n c : Nat} {xs : List Value}
theorem Lies.none_ (h : Lies w sz A n c xs) (hA : A = none) : n = 0 := by have := h.nilc hA; have := h.le; omega
theorem Lies.pos (h : Lies w sz A n c xs) (hn : 0 < n) (hs : 0 < sz) :
    ∃ b off, A = some ⟨b, off, none⟩ ∧ b < w.heap.size ∧ ∀ j u, xs[j]? = some u → w.cell? ⟨b, off + j, none⟩ = some u := by
  rcases A with _ | ⟨b, off, s⟩
  · exact absurd (h.none_ rfl) (by omega)
  · have hl : 0 < xs.length := by rw [h.len]; exact Nat.mul_pos hn hs
    have hc := h.cells _ rfl 0 xs[0] (by simp [hl])
    obtain rfl : s = none := by simpa [Addr.add] using World.cell?_spot hc
    refine ⟨b, off, rfl, ?_, fun j u hu => ?_⟩
    · have := World.block_lt_of_cell? w _ hc
      rwa [add_block] at this
    · rw [← add_none]; exact h.cells _ rfl j u hu

theorem Lies.keep (h : Lies w sz A n c xs) (hk : ∀ p : Addr, p.block < w.heap.size → w'.cell? p = w.cell? p) : Lies w' sz A n c xs :=
  ⟨h.len, h.nilc, h.le, h.big, fun a ha j u hu => by
    have hc := h.cells a ha j u hu
    exact (hk _ (World.block_lt_of_cell? w _ hc)).trans hc⟩
theorem Lies.below (h : Lies w sz A n c xs) {B : Nat} (hb : Below B w w') (hB : w.heap.size ≤ B) : Lies w' sz A n c xs :=
  h.keep fun _ hp => hb.cell (Nat.lt_of_lt_of_le hp hB)
theorem Lies.drewN (h : Lies w sz A n c xs) (k : Nat) : Lies (w.drewN k) sz A n c xs := ⟨h.len, h.nilc, h.le, h.big, h.cells⟩
theorem Lies.drew (h : Lies w sz A n c xs) : Lies w.drew sz A n c xs := ⟨h.len, h.nilc, h.le, h.big, h.cells⟩
theorem Lies.alloc (h : Lies w sz A n c xs) (o : Obj) : Lies (w.alloc o) sz A n c xs :=
  h.keep fun p hp => World.cell?_alloc_lt w o p hp
theorem Lies.of_own {base : Nat} {e : TypeId} (h : w.ownsRow base e sz (.slice A n c) n xs) : Lies w sz A n c xs := by
  rcases h.2 with ⟨hv, hn⟩ | ⟨g, cap, cur, hv, _, _, h1, h2, _⟩
  · injection hv with hA _ hc
    subst hA hn hc
    have : xs = [] := List.eq_nil_of_length_eq_zero (by simpa using h.1)
    subst this
    exact ⟨h.1, fun _ => rfl, Nat.le_refl _, by omega, fun a ha => by cases ha⟩
  · injection hv with hA _ hc
    subst hA hc
    refine ⟨h.1, fun hA => by (cases hA), h1, by unfold maxLen at h2; omega, fun a ha j u hu => ?_⟩
    injection ha with ha
    subst ha
    exact h.cells (g := g) rfl j u hu
theorem Lies.nil (w : World) (sz : Nat) : Lies w sz none 0 0 [] := ⟨by simp, fun _ => rfl, Nat.le_refl _, by omega, fun _ h => by cases h⟩
/-- A new block is a slice. -/
theorem Lies.new (w : World) (e : TypeId) (cs : Array Value) (n c : Nat) (hn : n ≤ c) (hc : c ≤ 9223372036854775807) (hs : cs.toList.length = n * sz) :
    Lies (w.alloc (.cells cs e)) sz (some ⟨w.heap.size, 0, none⟩) n c cs.toList := by
  refine ⟨hs, fun h => by (cases h), hn, hc, fun a ha j u hu => ?_⟩
  injection ha with ha
  subst ha
  rw [add_none, cell_of_row _ w.heap.size (0 + j) cs e (0, 0) (heap_alloc_new w _)]
  simpa using hu

/-- A slice that the call itself made has an address, a length and a capacity, and lies. -/
theorem own_form {base : Nat} {e : TypeId} {v : Value} (h : w.ownsRow base e sz v n xs) :
    ∃ A c, v = .slice A n c ∧ Lies w sz A n c xs := by
  rcases h.2 with ⟨rfl, rfl⟩ | ⟨g, cap, cur, rfl, _, _, h1, h2, _⟩
  · exact ⟨none, 0, rfl, Lies.of_own h⟩
  · exact ⟨_, cap, rfl, Lies.of_own h⟩
end

/-- Behind an append onto a slice of the call's own nothing below has turned. -/
theorem below_own {B base : Nat} {w w1 w2 : World} {e : TypeId} {sz n : Nat} {v : Value} {xs : List Value} (hb : Below B w w1) (hown : w1.ownsRow base e sz v n xs) (hg : w1.grownBy w2 v.ownBlock) (hB : B ≤ base) (hs : B ≤ w1.heap.size) : Below B w w2 :=
  hb.grown hg hs fun k hk => by have := (hown.lt k hk).1; omega

theorem _root_.Go.World.ownsRow.mono {w : World} {base b2 : Nat} {e : TypeId} {sz n : Nat} {v : Value} {xs : List Value} (h : w.ownsRow base e sz v n xs) (hb : b2 ≤ base) : w.ownsRow b2 e sz v n xs := by
  refine ⟨h.1, ?_⟩
  rcases h.2 with h2 | ⟨g, cap, cur, hv, hg, r⟩
  · exact .inl h2
  · exact .inr ⟨g, cap, cur, hv, Nat.le_trans hb hg, r⟩

section
variable {P : Program} (w : World)

theorem run_append_lies (base : Nat) (t ty e : TypeId) (i : TypeInfo) (z : Value) (size bytes : Nat) (ht : P.underlying t = some (.slice e)) (hi : P.info? e = some i) (hz : i.zero = some z)
    (hsize : i.size = size) (hby : i.bytes = bytes) (hzs : z.cells.size = size) (hsz : 0 < size)
    (v : Value) (n : Nat) (xs : List Value) (hown : w.ownsRow base e size v n xs)
    (A : Option Addr) (m c : Nat) (news : List Value) (hr : Lies w size A m c news) (h1 : ∀ u ∈ news, u.oneCell' = true)
    (h63 : n + m ≤ maxLen) (hbytes : (n + m) * bytes ≤ 140737488355328) (hbase : base ≤ w.heap.size) :
    ∃ v' w', (Builtin.append_ #[t, t] ty #[v, .slice A m c]).run P w = .ok v' w' ∧ w'.ownsRow base e size v' (n + m) (xs ++ news) ∧ w.grownBy w' v.ownBlock := by
  rcases A with _ | ad
  · obtain rfl := hr.none_ rfl
    obtain rfl := hr.nilc rfl
    have hn : news = [] := List.eq_nil_of_length_eq_zero (by simpa using hr.len)
    subst hn
    exact ⟨v, w, run_append_owned_none (P := P) (w := w) base t ty e i size ht hi v n xs hown, by simpa using hown, World.grownBy.refl w _⟩
  · obtain ⟨v', w', hrun, h2, h3, _⟩ := run_append_own (P := P) w base t ty e i z size bytes ht hi hz hsize hby hzs hsz v n xs hown ad m c news hr.len (hr.cells _ rfl) h1 h63 hbytes hbase
    exact ⟨v', w', hrun, h2, h3⟩

theorem wp_append_lies {o : Oper} {a : Act} {K : Act → World → Prop} {Q : Exit → Act → World → Prop} (s x : Operand) (t : TypeId)
    (ho : o.op = .call { callee := .builtin .append, args := #[s, x], argTypes := #[t, t] })
    (base : Nat) (e : TypeId) (i : TypeInfo) (z : Value) (size bytes : Nat) (ht : P.underlying t = some (.slice e)) (hi : P.info? e = some i) (hz : i.zero = some z)
    (hsize : i.size = size) (hby : i.bytes = bytes) (hzs : z.cells.size = size) (hsz : 0 < size)
    (v : Value) (n : Nat) (xs : List Value) (hs : a.eval s = v) (hown : w.ownsRow base e size v n xs)
    (A : Option Addr) (m c : Nat) (news : List Value) (hx : a.eval x = .slice A m c) (hr : Lies w size A m c news) (h1 : ∀ u ∈ news, u.oneCell' = true)
    (h63 : n + m ≤ maxLen) (hbytes : (n + m) * bytes ≤ 140737488355328) (hbase : base ≤ w.heap.size)
    (h : ∀ v' w', w'.ownsRow base e size v' (n + m) (xs ++ news) → w.grownBy w' v.ownBlock → (∀ (B : Nat) (w0 : World), Below B w0 w → B ≤ base → Below B w0 w') → K (a.put o.dst v') w') : o.wp P a w K Q := by
  obtain ⟨v', w', hrun, h2, h3⟩ := run_append_lies (P := P) w base t o.type e i z size bytes ht hi hz hsize hby hzs hsz v n xs hown A m c news hr h1 h63 hbytes hbase
  unfold Oper.wp execOp
  simp only [ho, resolve, invoke, builtin, Sem.run_bind, Sem.run_pure, Result.andThen_ok, List.map_toArray, List.map_cons, List.map_nil, hs, hx, hrun]
  exact h v' w' h2 h3 fun B w0 hb hB => below_own hb hown h3 hB (Nat.le_trans hB hbase)

/-- An append onto a slice of the call's own; its source lies anywhere, nil or empty too. -/
theorem wpList_append_lies {ops : Array Oper} {rest : List Oper} {o : Oper} {a : Act} {Q : Exit → Act → World → Prop} (hgd : o.guard = none) (s x : Operand) (t : TypeId)
    (ho : o.op = .call { callee := .builtin .append, args := #[s, x], argTypes := #[t, t] })
    (base : Nat) (e : TypeId) (i : TypeInfo) (z : Value) (size bytes : Nat) (ht : P.underlying t = some (.slice e)) (hi : P.info? e = some i) (hz : i.zero = some z)
    (hsize : i.size = size) (hby : i.bytes = bytes) (hzs : z.cells.size = size) (hsz : 0 < size)
    (v : Value) (n : Nat) (xs : List Value) (hs : a.eval s = v) (hown : w.ownsRow base e size v n xs)
    (A : Option Addr) (m c : Nat) (news : List Value) (hx : a.eval x = .slice A m c) (hr : Lies w size A m c news) (h1 : ∀ u ∈ news, u.oneCell' = true)
    (h63 : n + m ≤ maxLen) (hbytes : (n + m) * bytes ≤ 140737488355328) (hbase : base ≤ w.heap.size)
    (h : ∀ v' w', w'.ownsRow base e size v' (n + m) (xs ++ news) → w.grownBy w' v.ownBlock → (∀ (B : Nat) (w0 : World), Below B w0 w → B ≤ base → Below B w0 w') → wpList P ops Q rest (a.put o.dst v') w') : wpList P ops Q (o :: rest) a w :=
  wpList_plain hgd fun _ hK => wp_append_lies w s x t ho base e i z size bytes ht hi hz hsize hby hzs hsz v n xs hs hown A m c news hx hr h1 h63 hbytes hbase fun v' w' h2 h3 h4 => hK _ _ (h v' w' h2 h3 h4)
end

/-- Bytes as cells. -/
def byt (l : List Nat) : List Value := l.map fun c : Nat => Value.int .u8 (c : Int)
theorem byt_len (l : List Nat) : (byt l).length = l.length := by simp [byt]
theorem byt_app (a b : List Nat) : byt (a ++ b) = byt a ++ byt b := by simp [byt]
theorem byt_one (l : List Nat) : ∀ u ∈ byt l, u.oneCell' = true := by
  intro u hu
  obtain ⟨_, _, rfl⟩ := List.mem_map.1 hu
  rfl
theorem byt_get (l : List Nat) (j : Nat) (u : Value) (h : (byt l)[j]? = some u) : ∃ c, l[j]? = some c ∧ u = .int .u8 (c : Int) := by
  simp only [byt, List.getElem?_map, Option.map_eq_some_iff] at h
  obtain ⟨c, hc, rfl⟩ := h
  exact ⟨c, hc, rfl⟩

/-- A part of bytes. -/
theorem Lies.cut1 {w : World} {b off n c : Nat} {l : List Nat} (h : Lies w 1 (some ⟨b, off, none⟩) n c (byt l)) (i j : Nat) (hij : i ≤ j) (hj : j ≤ n) : Lies w 1 (some ⟨b, off + i, none⟩) (j - i) (c - i) (byt ((l.drop i).take (j - i))) := by
  have hl : l.length = n := by have := h.len; rw [byt_len] at this; omega
  have hle := h.le
  have hbig := h.big
  refine ⟨by rw [byt_len]; simp; omega, fun h => by (cases h), by omega, by omega, fun a ha x u hu => ?_⟩
  injection ha with ha
  subst ha
  obtain ⟨ch, hc, rfl⟩ := byt_get _ _ _ hu
  have hx : x < j - i := by
    have := (List.getElem?_eq_some_iff.1 hc).1
    simp at this; omega
  rw [List.getElem?_take, if_pos hx, List.getElem?_drop] at hc
  have := h.cells _ rfl (i + x) (.int .u8 ch) (by simp [byt, hc])
  rw [add_none] at this ⊢
  rwa [Nat.add_assoc]
/-- The first ones. -/
theorem Lies.take1 {w : World} {A : Option Addr} {n c : Nat} {xs : List Value} (h : Lies w 1 A n c xs) (j : Nat) (hj : j ≤ n) : Lies w 1 A j c (xs.take j) := by
  have hl := h.len
  have hle := h.le
  refine ⟨by simp; omega, h.nilc, by omega, h.big, fun a ha x u hu => ?_⟩
  rw [List.getElem?_take] at hu
  split at hu
  · exact h.cells a ha x u hu
  · cases hu
theorem Lies.takeb {w : World} {A : Option Addr} {n c : Nat} {l : List Nat} (h : Lies w 1 A n c (byt l)) (j : Nat) (hj : j ≤ n) : Lies w 1 A j c (byt (l.take j)) := by
  have := h.take1 j hj
  rwa [show (byt l).take j = byt (l.take j) by simp [byt]] at this
theorem Lies.bytes_len {w : World} {A : Option Addr} {n c : Nat} {l : List Nat} (h : Lies w 1 A n c (byt l)) : l.length = n := by have := h.len; rw [byt_len] at this; omega

theorem own_snoc {w : World} {base : Nat} {e : TypeId} {v : Value} {n : Nat} {l : List Nat} {c : Int} (k : Nat) (h : w.ownsRow base e 1 v n (byt l ++ [.int .u8 c])) (hc : c = (k : Int)) : w.ownsRow base e 1 v n (byt (l ++ [k])) := by
  subst hc; rw [byt_app]; exact h

theorem lies_lit {w : World} {e : TypeId} {cs : Array Value} {g : Nat} (l : List Nat) (n : Nat) (hg : g = w.heap.size) (h : cs.toList = byt l) (hn : l.length = n) (hb : n ≤ 9223372036854775807) :
    Lies (w.alloc (.cells cs e)) 1 (some ⟨g, 0, none⟩) n n (byt l) := by
  subst hg
  rw [← h]
  exact Lies.new w e cs n n (Nat.le_refl _) hb (by rw [h, byt_len]; omega)

/-- Bytes as a string. -/
def str (l : List Nat) : ByteArray := strOfNums (l.map fun c : Nat => (c : Int))
theorem run_convert_lies {P : Program} {w : World} {A : Option Addr} {n c : Nat} {l : List Nat} (h : Lies w 1 A n c (byt l)) (src e dst : TypeId)
    (hs : P.underlying src = some (.slice e)) (he : P.underlying e = some (.int .u8)) (hd : P.underlying dst = some .string) :
    (convert src dst (.slice A n c)).run P w = .ok (.string (str l)) w := by
  have hln : l.length = n := by have := h.len; rw [byt_len] at this; omega
  rcases Nat.eq_zero_or_pos n with hn | hn
  · subst hn
    obtain rfl : l = [] := List.eq_nil_of_length_eq_zero hln
    rcases A with _ | ⟨b, off, s⟩
    · rw [run_convert_bytes_nil w src e hs he 0 c dst hd]; simp [str, strOfNums, ByteArray.empty, ByteArray.emptyWithCapacity]; rfl
    · have hl : (loadCells ⟨b, off, s⟩ 0).run P w = .ok (([] : List Int).map (Value.int .u8)).toArray w := by
        simp [loadCells, loadCellsFrom]
      rw [run_convert_bytes_string w src dst e _ 0 c hs he hd, run_bytesToString w _ 0 c [] hl]
      simp [str, strOfNums, ByteArray.empty, ByteArray.emptyWithCapacity]; rfl
  · obtain ⟨b, off, rfl, _, hc⟩ := h.pos hn (by decide)
    refine run_convert_bytes_arg (P := P) w src e hs he b off n c (l.map fun c : Nat => (c : Int)) (by simpa using hln) (fun i hi => ?_) dst hd
    rw [hc i (.int .u8 ((l.map fun c : Nat => (c : Int)).getD i 0)) (by simp [byt, List.getD, show i < l.length by omega])]
theorem str_list (l : List Nat) : (str l).data.toList = l.map UInt8.ofNat := by simp [str, strOfNums_data]
theorem str_eq {a b : List Nat} (ha : ∀ c ∈ a, c < 256) (hb : ∀ c ∈ b, c < 256) : ((str a).toList == (str b).toList) = decide (a = b) := by
  have hd : ∀ s : ByteArray, s.toList = s.data.toList := fun s => ByteArray.toList_eq s
  rw [hd, hd, str_list, str_list, Bool.eq_iff_iff]
  simp only [beq_iff_eq, decide_eq_true_eq]
  refine ⟨fun h => ?_, fun h => by rw [h]⟩
  have hm : ∀ l : List Nat, (∀ c ∈ l, c < 256) → (l.map UInt8.ofNat).map UInt8.toNat = l := by
    intro l hl
    rw [List.map_map]
    conv => rhs; rw [← List.map_id l]
    exact List.map_congr_left fun c hc => by simp [Nat.mod_eq_of_lt (hl c hc)]
  rw [← hm a ha, ← hm b hb, h]
end Go.Proofs.Ytlnokohmmhmoaaa

