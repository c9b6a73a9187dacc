/-
  edit: memory of runs: an append whose block is told, runs with their chars apart.
-/
import Derived.Test.YtfpbmpgdpnpdjaaFoll
import Derived.Test.YtfpbmpgdpnpdjaaWide
namespace Go.Proofs.Ytfpbmpgdpnpdjaa
open Go.RowKit
set_option linter.unusedSimpArgs false

/-- The same block, or a new one. -/
def Fresh (w : World) (v v' : Value) : Prop := v'.ownBlock = v.ownBlock ∨ ∀ g, v'.ownBlock = some g → w.heap.size ≤ g
section
variable {P : Program} (w : World)
theorem run_append_fresh (base : Nat) (t ty e : TypeId) (i : TypeInfo) (z : Value) (size bytes : Nat) (ht : P.underlying t = some (.slice e)) (hi : P.info? e = some i) (hz : i.zero = some z)
    (hsize : i.size = size) (hby : i.bytes = bytes) (hzs : z.cells.size = size) (hsz : 0 < size)
    (v : Value) (n : Nat) (xs : List Value) (hown : w.ownsRow base e size v n xs)
    (A : Option Addr) (m c : Nat) (news : List Value) (hr : Lies w size A m c news) (h1 : ∀ u ∈ news, u.oneCell' = true)
    (h63 : n + m ≤ maxLen) (hbytes : (n + m) * bytes ≤ 140737488355328) (hbase : base ≤ w.heap.size) :
    ∃ v' w', (Builtin.append_ #[t, t] ty #[v, .slice A m c]).run P w = .ok v' w' ∧ w'.ownsRow base e size v' (n + m) (xs ++ news) ∧ w.grownBy w' v.ownBlock ∧ Fresh w v v' := by
  rcases hown.2 with ⟨rfl, rfl⟩ | ⟨g, cap, cur, rfl, hbg, hg, hnc, hcm, hcs, htake⟩
  · have hown2 : w.ownsRow w.heap.size e size (.slice none 0 0) 0 xs := ⟨hown.1, .inl ⟨rfl, rfl⟩⟩
    obtain ⟨v', w', hrun, h2, h3⟩ := run_append_lies (P := P) w w.heap.size t ty e i z size bytes ht hi hz hsize hby hzs hsz _ 0 xs hown2 A m c news hr h1 h63 hbytes (Nat.le_refl _)
    exact ⟨v', w', hrun, h2.mono hbase, h3, .inr fun g hg => (h2.lt g hg).1⟩
  · obtain ⟨v', w', hrun, h2, h3⟩ := run_append_lies (P := P) w base t ty e i z size bytes ht hi hz hsize hby hzs hsz _ n xs hown A m c news hr h1 h63 hbytes hbase
    refine ⟨v', w', hrun, h2, h3, ?_⟩
    rcases A with _ | ad
    · obtain rfl := hr.nilc rfl
      obtain rfl := hr.none_ rfl
      have hq := run_append_owned_none (P := P) (w := w) base t ty e i size ht hi _ n xs hown
      rw [hrun] at hq
      injection hq with hq
      exact .inl (by rw [hq])
    · by_cases hroom : n + m ≤ cap
      · obtain ⟨w2, hq, -⟩ := run_append_fits (P := P) w base t ty e i size ht hi hsize g n cap xs hown ad m c news hr.len (hr.cells _ rfl) h1 hroom
        rw [hrun] at hq
        injection hq with hq
        exact .inl (by rw [hq]; rfl)
      · have hq := run_append_grow (P := P) w t ty e i z ht hi hz ⟨g, 0, none⟩ n cap xs (by rw [hsize]; exact hown.1) (hown.cells rfl) ad m c news (by rw [hsize]; exact hr.len) (hr.cells _ rfl) (by omega) (by simp only [maxLen] at h63; omega) (by rw [hby]; exact growslice_fits (by omega) hbytes)
        rw [hrun] at hq
        injection hq with hq
        exact .inr fun g' hg' => by rw [hq] at hg'; simp [Value.ownBlock] at hg'; omega
theorem wp_append_fresh {o : Oper} {a : Act} {K : Act → World → Prop} {Q : Exit → Act → World → Prop} (s x : Operand) (t : TypeId)
    (ho : o.op = .call { callee := .builtin .append, args := #[s, x], argTypes := #[t, t] })
    (base : Nat) (e : TypeId) (i : TypeInfo) (z : Value) (size bytes : Nat) (ht : P.underlying t = some (.slice e)) (hi : P.info? e = some i) (hz : i.zero = some z)
    (hsize : i.size = size) (hby : i.bytes = bytes) (hzs : z.cells.size = size) (hsz : 0 < size)
    (v : Value) (n : Nat) (xs : List Value) (hs : a.eval s = v) (hown : w.ownsRow base e size v n xs)
    (A : Option Addr) (m c : Nat) (news : List Value) (hx : a.eval x = .slice A m c) (hr : Lies w size A m c news) (h1 : ∀ u ∈ news, u.oneCell' = true)
    (h63 : n + m ≤ maxLen) (hbytes : (n + m) * bytes ≤ 140737488355328) (hbase : base ≤ w.heap.size)
    (h : ∀ v' w', w'.ownsRow base e size v' (n + m) (xs ++ news) → w.grownBy w' v.ownBlock → Fresh w v v' → K (a.put o.dst v') w') : o.wp P a w K Q := by
  obtain ⟨v', w', hrun, h2, h3, h4⟩ := run_append_fresh (P := P) w base t o.type e i z size bytes ht hi hz hsize hby hzs hsz v n xs hown A m c news hr h1 h63 hbytes hbase
  unfold Oper.wp execOp
  simp only [ho, resolve, invoke, builtin, Sem.run_bind, Sem.run_pure, Result.andThen_ok, List.map_toArray, List.map_cons, List.map_nil, hs, hx, hrun]
  exact h v' w' h2 h3 h4
theorem wpList_append_fresh {ops : Array Oper} {rest : List Oper} {o : Oper} {a : Act} {Q : Exit → Act → World → Prop} (hgd : o.guard = none) (s x : Operand) (t : TypeId)
    (ho : o.op = .call { callee := .builtin .append, args := #[s, x], argTypes := #[t, t] })
    (base : Nat) (e : TypeId) (i : TypeInfo) (z : Value) (size bytes : Nat) (ht : P.underlying t = some (.slice e)) (hi : P.info? e = some i) (hz : i.zero = some z)
    (hsize : i.size = size) (hby : i.bytes = bytes) (hzs : z.cells.size = size) (hsz : 0 < size)
    (v : Value) (n : Nat) (xs : List Value) (hs : a.eval s = v) (hown : w.ownsRow base e size v n xs)
    (A : Option Addr) (m c : Nat) (news : List Value) (hx : a.eval x = .slice A m c) (hr : Lies w size A m c news) (h1 : ∀ u ∈ news, u.oneCell' = true)
    (h63 : n + m ≤ maxLen) (hbytes : (n + m) * bytes ≤ 140737488355328) (hbase : base ≤ w.heap.size)
    (h : ∀ v' w', w'.ownsRow base e size v' (n + m) (xs ++ news) → w.grownBy w' v.ownBlock → Fresh w v v' → wpList P ops Q rest (a.put o.dst v') w') : wpList P ops Q (o :: rest) a w :=
  wpList_plain hgd fun _ hK => wp_append_fresh w s x t ho base e i z size bytes ht hi hz hsize hby hzs hsz v n xs hs hown A m c news hx hr h1 h63 hbytes hbase fun v' w' h2 h3 h4 => hK _ _ (h v' w' h2 h3 h4)
end

def BApart (a b : Value) : Prop := ∀ g, a.ownBlock = some g → b.ownBlock ≠ some g
theorem BApart.symm {a b : Value} (h : BApart a b) : BApart b a := fun g hb ha => h g ha hb
theorem BApart.fresh {w : World} {v v' x : Value} (hf : Fresh w v v') (h : BApart v x) (hx : ∀ g, x.ownBlock = some g → g < w.heap.size) : BApart v' x := by
  intro g hg hxg
  rcases hf with hf | hf
  · exact h g (hf ▸ hg) hxg
  · have := hf g hg; have := hx g hxg; omega
theorem BApart.nil (x : Value) : BApart x (.slice none 0 0) := fun g _ h => by cases h

theorem info_run : (Try.prog.info? 38).map (fun i => (i.zero, i.size, i.bytes)) = some (some (.agg #[.int .i64 0, .int .i64 0, .int .u32 0, .int .u64 0, .slice none 0 0]), 5, 56) := by kernel_rfl
theorem rcell_oc (r : R) (A : Option Addr) (n c : Nat) : ∀ u ∈ rcell r (.slice A n c), u.oneCell' = true := by
  intro u hu
  simp only [rcell, List.mem_cons, List.not_mem_nil, or_false] at hu
  rcases hu with rfl | rfl | rfl | rfl | rfl <;> rfl

/-- Runs in memory of the call's own. -/
structure RunsAt (w : World) (base : Nat) (V : Value) (l : List (R × Value)) : Prop where
  row : w.ownsRow base 38 5 V l.length (rcs l)
  each : ∀ x ∈ l, w.ownsRow base 24 1 x.2 x.1.cs.length (chs x.1.cs)
  rapart : ∀ x ∈ l, BApart V x.2
  apart : l.Pairwise fun x y => BApart x.2 y.2

theorem RunsAt.nil (w : World) (base : Nat) : RunsAt w base (.slice none 0 0) [] := ⟨World.ownsRow_nil _ _ _ _, fun _ h => (by cases h), fun _ h => (by cases h), List.Pairwise.nil⟩
theorem RunsAt.kept {w w' : World} {base : Nat} {V : Value} {l : List (R × Value)} {row : Option Nat} (h : RunsAt w base V l) (hg : w.grownBy w' row) (hr : ∀ g, row = some g → g < base) : RunsAt w' base V l := by
  have key : ∀ {e sz n v xs}, w.ownsRow base e sz v n xs → w'.ownsRow base e sz v n xs := fun ho => ho.kept hg (by
    cases hv : Value.ownBlock _ with
    | none => exact .inl rfl
    | some g => exact .inr fun e => by have := hr g e.symm; have := (ho.lt g hv).1; omega)
  exact ⟨key h.row, fun x hx => key (h.each x hx), h.rapart, h.apart⟩
theorem RunsAt.grow {w w' : World} {base : Nat} {V : Value} {l : List (R × Value)} (h : RunsAt w base V l) (hg : Grow w w') : RunsAt w' base V l := h.kept hg.only fun g hg => by cases hg
theorem RunsAt.setBox {w : World} {base g o : Nat} {V x : Value} {l : List (R × Value)} (h : RunsAt w base V l) (hg : g < base) : RunsAt (w.setCell ⟨g, o, none⟩ x) base V l :=
  h.kept (row := some g) ⟨rfl, rfl, rfl, by simp [World.setCell], fun k _ hk => Below.heap_setCell _ _ _ _ (fun e => hk (by rw [e]))⟩ fun g' hg' => by injection hg' with hg'; omega
theorem RunsAt.new {w w' : World} {base : Nat} {V V' : Value} {l : List (R × Value)} {r : R} (h : RunsAt w base V l) (hr : r.cs = []) (hg : w.grownBy w' V.ownBlock) (hf : Fresh w V V')
    (ho : w'.ownsRow base 38 5 V' (l.length + 1) (rcs l ++ rcell r (.slice none 0 0))) : RunsAt w' base V' (l ++ [(r, .slice none 0 0)]) := by
  refine ⟨by rw [rcs_app, List.length_append]; simpa [rcs] using ho, fun x hx => ?_, fun x hx => ?_, ?_⟩
  · rcases List.mem_append.1 hx with hx | hx
    · refine (h.each x hx).kept hg ?_
      cases hv : x.2.ownBlock with
      | none => exact .inl rfl
      | some g => exact .inr fun e => h.rapart x hx g e.symm hv
    · simp at hx; subst hx
      rw [hr]
      exact World.ownsRow_nil _ _ _ _
  · rcases List.mem_append.1 hx with hx | hx
    · exact (h.rapart x hx).fresh hf fun g hg => ((h.each x hx).lt g hg).2
    · simp at hx; subst hx; exact BApart.nil _
  · refine List.pairwise_append.2 ⟨h.apart, List.pairwise_singleton _ _, fun x hx y hy => ?_⟩
    simp at hy; subst hy; exact BApart.nil _
theorem own_len {w : World} {base : Nat} {e : TypeId} {sz n m c : Nat} {A : Option Addr} {xs : List Value} (h : w.ownsRow base e sz (.slice A n c) m xs) : n = m := by
  rcases h.2 with ⟨h2, rfl⟩ | ⟨g, cap, cur, h2, -⟩
  · injection h2
  · injection h2
theorem rcell_len (r : R) (v : Value) : (rcell r v).length = 5 := rfl
theorem rcs_at : ∀ (l : List (R × Value)) (i : Nat) (x : R × Value), l[i]? = some x → ∀ j v, (rcell x.1 x.2)[j]? = some v → (rcs l)[i * 5 + j]? = some v
  | [], i, u, h, _, _, _ => by simp at h
  | a :: us, 0, u, h, j, v, hv => by
    simp at h; subst h
    rw [show rcs (a :: us) = rcell a.1 a.2 ++ rcs us from rfl, Nat.zero_mul, Nat.zero_add, List.getElem?_append_left (List.getElem?_eq_some_iff.1 hv).1]
    exact hv
  | a :: us, i + 1, u, h, j, v, hv => by
    rw [show rcs (a :: us) = rcell a.1 a.2 ++ rcs us from rfl, List.getElem?_append_right (by rw [rcell_len]; omega), rcell_len, show (i + 1) * 5 + j - 5 = i * 5 + j by omega]
    exact rcs_at us i u (by simpa using h) j v hv
theorem rcs_set (l : List (R × Value)) (r r' : R) (v v' : Value) (hk : r'.k = r.k) (hp : r'.p = r.p) (hcl : r'.cl = r.cl) (hrq : r'.rq = r.rq) : (rcs (l ++ [(r, v)])).set (l.length * 5 + 4) v' = rcs (l ++ [(r', v')]) := by
  rw [rcs_app, rcs_app, List.set_append_right _ _ (by rw [rcs_len]; omega), rcs_len, show l.length * 5 + 4 - l.length * 5 = 4 by omega]
  simp [rcs, rcell, hk, hp, hcl, hrq]
/-- A char onto the last run. -/
theorem RunsAt.push {w w' : World} {base b n c : Nat} {l : List (R × Value)} {r : R} {ch : Int} {v v' : Value} (h : RunsAt w base (.slice (some ⟨b, 0, none⟩) n c) (l ++ [(r, v)])) (hg : w.grownBy w' v.ownBlock) (hf : Fresh w v v')
    (ho : w'.ownsRow base 24 1 v' (r.cs.length + 1) (chs (r.cs ++ [ch]))) :
    RunsAt (w'.setCell ⟨b, l.length * 5 + 4, none⟩ v') base (.slice (some ⟨b, 0, none⟩) n c) (l ++ [({ r with cs := r.cs ++ [ch] }, v')]) := by
  have hn : n = l.length + 1 := by
    have := own_len h.row
    simpa using this
  subst hn
  have hlast : (r, v) ∈ l ++ [(r, v)] := by simp
  have hrv := h.rapart _ hlast
  have hrow := h.row.kept hg (.inr fun e => hrv b rfl (by rw [← e]; rfl))
  rw [List.length_append, List.length_singleton] at hrow
  obtain ⟨hs1, hs2⟩ := hrow.stored (l.length * 5 + 4) v'
  rw [rcs_set l r { r with cs := r.cs ++ [ch] } v v' rfl rfl rfl rfl] at hs1
  have hb : b < w.heap.size := (h.row.lt b rfl).2
  have hv'b : BApart v' (.slice (some ⟨b, 0, none⟩) (l.length + 1) c) := BApart.fresh hf hrv.symm fun g hg => by simp [Value.ownBlock] at hg; omega
  have hpw := List.pairwise_append.1 h.apart
  have keep : ∀ {e sz n2 x xs}, BApart (.slice (some ⟨b, 0, none⟩) (l.length + 1) c) x → w'.ownsRow base e sz x n2 xs → (w'.setCell ⟨b, l.length * 5 + 4, none⟩ v').ownsRow base e sz x n2 xs := fun hx ho => ho.kept hs2 (.inr fun e => hx b rfl e)
  refine ⟨by simpa using hs1, fun x hx => ?_, fun x hx => ?_, ?_⟩
  · rcases List.mem_append.1 hx with hx | hx
    · refine keep (h.rapart x (List.mem_append_left _ hx)) ((h.each x (List.mem_append_left _ hx)).kept hg ?_)
      have hxv := hpw.2.2 x hx _ (List.mem_singleton.2 rfl)
      cases hv : x.2.ownBlock with
      | none => exact .inl rfl
      | some g => exact .inr fun e => hxv g hv e.symm
    · simp at hx; subst hx
      simpa using keep hv'b.symm ho
  · rcases List.mem_append.1 hx with hx | hx
    · exact h.rapart x (List.mem_append_left _ hx)
    · simp at hx; subst hx; exact hv'b.symm
  · refine List.pairwise_append.2 ⟨hpw.1, List.pairwise_singleton _ _, fun x hx y hy => ?_⟩
    simp at hy; subst hy
    have hxv : BApart x.2 v := hpw.2.2 x hx _ (List.mem_singleton.2 rfl)
    exact (BApart.fresh hf hxv.symm fun g hg => ((h.each x (List.mem_append_left _ hx)).lt g hg).2).symm
theorem own_pos {w : World} {base : Nat} {e : TypeId} {sz n : Nat} {v : Value} {xs : List Value} (h : w.ownsRow base e sz v n xs) (hn : 0 < n) : ∃ b c, v = .slice (some ⟨b, 0, none⟩) n c := by
  rcases h.2 with ⟨h2, rfl⟩ | ⟨g, cap, cur, h2, -⟩
  · omega
  · exact ⟨g, cap, h2⟩
theorem heap_set (w : World) (g j k : Nat) (u : Value) (h : k ≠ g) : (w.setCell ⟨g, j, none⟩ u).heap[k]? = w.heap[k]? := Below.heap_setCell _ _ _ _ h
theorem app_kept {w w' : World} {v : Value} {g : Nat} {o : Obj} (hg : w.grownBy w' v.ownBlock) (h : w.heap[g]? = some o) (hne : v.ownBlock ≠ some g) : w'.heap[g]? = some o :=
  (hg.block g (Array.getElem?_eq_some_iff.1 h).1 (fun e => hne e.symm)).trans h
theorem lies_run {w : World} {e : TypeId} {g : Nat} (r : R) (hg : g = w.heap.size) : Lies (w.alloc (.cells #[.int .i64 r.k, .int .i64 r.p, .int .u32 r.cl, .int .u64 r.rq, .slice none 0 0] e)) 5 (some ⟨g, 0, none⟩) 1 1 (rcell r (.slice none 0 0)) := by
  subst hg
  exact Lies.new w e #[.int .i64 r.k, .int .i64 r.p, .int .u32 r.cl, .int .u64 r.rq, .slice none 0 0] 1 1 (Nat.le_refl _) (by decide) rfl
theorem grown_below {w w' w0 : World} {base B : Nat} {e : TypeId} {sz n : Nat} {v : Value} {xs : List Value} (ho : w.ownsRow base e sz v n xs) (hg : w.grownBy w' v.ownBlock) (hb : Below B w0 w) (hB : B ≤ base) (hs : B ≤ w.heap.size) : Below B w0 w' := below_own hb ho hg hB hs
theorem wpList_appR {w : World} {ops : Array Oper} {rest : List Oper} {o : Oper} {a : Act} {Q : Exit → Act → World → Prop} (hgd : o.guard = none) (s x : Operand)
    (ho : o.op = .call { callee := .builtin .append, args := #[s, x], argTypes := #[32, 32] }) (base : Nat)
    (V : Value) (l : List (R × Value)) (r : R) (hcs : r.cs = []) (hs : a.eval s = V) (hR : RunsAt w base V l)
    (A : Option Addr) (hx : a.eval x = .slice A 1 1) (hr : Lies w 5 A 1 1 (rcell r (.slice none 0 0))) (hsum : (l.length + 1) * 56 ≤ 140737488355328) (hbase : base ≤ w.heap.size)
    (h : ∀ (V' : Value) (w' : World), RunsAt w' base V' (l ++ [(r, .slice none 0 0)]) → w.grownBy w' V.ownBlock → wpList Try.prog ops Q rest (a.put o.dst V') w') : wpList Try.prog ops Q (o :: rest) a w := by
  obtain ⟨i0, hi, hz0, hz1, hz2⟩ := info_parts info_run
  refine wpList_append_fresh w hgd s x _ ho base 38 i0 _ 5 56 Try.underlying32 hi hz0 hz1 hz2 rfl (by decide) V l.length (rcs l) hs hR.row A 1 1 _ hx hr (rcell_oc _ _ _ _) (by simp only [maxLen]; omega) hsum hbase ?_
  intro V' w' h1 h2 h3
  exact h V' w' (hR.new hcs h2 h3 h1) h2
theorem wpList_appF {w : World} {ops : Array Oper} {rest : List Oper} {o : Oper} {a : Act} {Q : Exit → Act → World → Prop} (hgd : o.guard = none) (s x : Operand)
    (ho : o.op = .call { callee := .builtin .append, args := #[s, x], argTypes := #[36, 36] }) (base : Nat)
    (v : Value) (n : Nat) (l : List Int) (hs : a.eval s = v) (hown : w.ownsRow base 24 1 v n (chs l))
    (A : Option Addr) (m c : Nat) (r : List Int) (hx : a.eval x = .slice A m c) (hr : Lies w 1 A m c (chs r)) (hsum : (n + m) * 4 ≤ 140737488355328) (hbase : base ≤ w.heap.size)
    (h : ∀ (A' : Option Addr) (c' : Nat) (w' : World), w'.ownsRow base 24 1 (.slice A' (n + m) c') (n + m) (chs (l ++ r)) → w.grownBy w' v.ownBlock → Fresh w v (.slice A' (n + m) c') → wpList Try.prog ops Q rest (a.put o.dst (.slice A' (n + m) c')) w') : wpList Try.prog ops Q (o :: rest) a w := by
  obtain ⟨i0, hi, hz0, hz1, hz2⟩ := info_parts info_char
  refine wpList_append_fresh w hgd s x _ ho base 24 i0 (.int .i32 0) 1 4 Try.underlying36 hi hz0 hz1 hz2 rfl (by decide) v n (chs l) hs hown A m c (chs r) hx hr (chs_one _) (by simp only [maxLen]; omega) hsum hbase ?_
  intro v' w' h1 h2 h3
  rw [← chs_app] at h1
  obtain ⟨A', c', rfl, h4⟩ := own_form h1
  exact h A' c' w' h1 h2 h3
theorem lies_cell {w : World} {g : Nat} {x : Int} (h : w.cell? ⟨g, 0, none⟩ = some (.int .i32 x)) : Lies w 1 (some ⟨g, 0, none⟩) 1 1 (chs [x]) := by
  refine ⟨rfl, fun h => (by cases h), Nat.le_refl _, by decide, fun a ha j u hu => ?_⟩
  injection ha with ha
  subst ha
  match j, hu with
  | 0, hu => simp [chs] at hu; subst hu; rw [add_none]; exact h
  | j + 1, hu => simp [chs] at hu
theorem lies_char {w : World} {e : TypeId} {g : Nat} (x : Int) (hg : g = w.heap.size) : Lies (w.alloc (.cells #[.int .i32 x] e)) 1 (some ⟨g, 0, none⟩) 1 1 (chs [x]) := by
  subst hg
  exact Lies.new w e #[.int .i32 x] 1 1 (Nat.le_refl _) (by decide) rfl
end Go.Proofs.Ytfpbmpgdpnpdjaa

