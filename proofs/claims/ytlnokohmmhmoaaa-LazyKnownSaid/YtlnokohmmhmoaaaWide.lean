/-
  A region that draws its order and writes: 'WChain'. As 'Chain' (Facts), with two things more: operations that are taken first ('E': they look at no world), and rows that single operations write ('T').
-/
import Derived.Test.YtlnokohmmhmoaaaFacts
import Derived.Test.YtlnokohmmhmoaaaMem
namespace Go.Proofs.Ytlnokohmmhmoaaa
open Go.RowKit

/-- All but the blocks of T stays. -/
structure GrowS (T : Nat → Prop) (w w' : World) : Prop where
  os : w'.os = w.os
  tape : w'.tape = w.tape
  output : w'.output = w.output
  size : w.heap.size ≤ w'.heap.size
  block : ∀ k, k < w.heap.size → ¬ T k → w'.heap[k]? = w.heap[k]?
def NoRow : Nat → Prop := fun _ => False
theorem GrowS.refl (T : Nat → Prop) (w : World) : GrowS T w w := ⟨rfl, rfl, rfl, Nat.le_refl _, fun _ _ _ => rfl⟩
theorem GrowS.trans {T : Nat → Prop} {a b c : World} (h : GrowS T a b) (k : GrowS T b c) : GrowS T a c :=
  ⟨k.os.trans h.os, k.tape.trans h.tape, k.output.trans h.output, Nat.le_trans h.size k.size, fun i hi hn => (k.block i (Nat.lt_of_lt_of_le hi h.size) hn).trans (h.block i hi hn)⟩
theorem GrowS.mono {T T' : Nat → Prop} {w w' : World} (h : GrowS T w w') (hT : ∀ k, T k → T' k) : GrowS T' w w' := ⟨h.os, h.tape, h.output, h.size, fun k hk hn => h.block k hk fun ht => hn (hT k ht)⟩
theorem Grow.wide {w w' : World} (h : Grow w w') (T : Nat → Prop) : GrowS T w w' := ⟨h.os, h.tape, h.output, h.size, fun k hk _ => Below.block h k hk⟩
theorem _root_.Go.World.grownBy.only' {w w' : World} (h : w.grownBy w' none) : Grow w w' := ⟨h.os, h.tape, h.output, h.size, fun k hk => h.block k hk fun e => by cases e⟩
theorem GrowS.grow {T : Nat → Prop} {w w' : World} (h : GrowS T w w') (hT : ∀ k, k < w.heap.size → ¬ T k) : Grow w w' := ⟨h.os, h.tape, h.output, h.size, fun k hk => h.block k hk (hT k hk)⟩
theorem GrowS.no {w w' : World} (h : GrowS NoRow w w') : Grow w w' := h.grow fun _ _ k => k
theorem _root_.Go.World.grownBy.wide {w w' : World} {row : Option Nat} (h : w.grownBy w' row) {T : Nat → Prop} (hr : ∀ k, row = some k → T k) : GrowS T w w' :=
  ⟨h.os, h.tape, h.output, h.size, fun k hk hn => h.block k hk fun e => hn (hr k e.symm)⟩
theorem GrowS.cell {T : Nat → Prop} {w w' : World} {p : Addr} {v : Value} (k : GrowS T w w') (h : w.cell? p = some v) (hT : ¬ T p.block) : w'.cell? p = some v :=
  (World.cell?_of_block (w := w) (k.block p.block (World.block_lt_of_cell? w _ h) hT)).trans h
theorem GrowS.kept {T : Nat → Prop} {w w' : World} {g : Nat} {o : Obj} (k : GrowS T w w') (h : w.heap[g]? = some o) (hT : ¬ T g) : w'.heap[g]? = some o :=
  (k.block g (Array.getElem?_eq_some_iff.1 h).1 hT).trans h
theorem GrowS.below {T : Nat → Prop} {w w' : World} (h : GrowS T w w') {B : Nat} (hB : B ≤ w.heap.size) (hT : ∀ k, k < B → ¬ T k) : Below B w w' := ⟨h.os, h.tape, h.output, h.size, fun k hk => h.block k (by omega) (hT k hk)⟩
theorem GrowS.own {T : Nat → Prop} {w w' : World} {base : Nat} {e : TypeId} {sz n : Nat} {v : Value} {xs : List Value} (k : GrowS T w w') (h : w.ownsRow base e sz v n xs) (hT : ∀ g, v.ownBlock = some g → ¬ T g) : w'.ownsRow base e sz v n xs := by
  refine ⟨h.1, ?_⟩
  rcases h.2 with hn | ⟨g, cap, cur, rfl, hb, hgg, rest⟩
  · exact .inl hn
  · exact .inr ⟨g, cap, cur, rfl, hb, k.kept hgg (hT g rfl), rest⟩
theorem GrowS.lies {T : Nat → Prop} {w w' : World} {sz n c : Nat} {A : Option Addr} {xs : List Value} (k : GrowS T w w') (h : Lies w sz A n c xs) (hT : ∀ a, A = some a → ¬ T a.block) : Lies w' sz A n c xs :=
  ⟨h.len, h.nilc, h.le, h.big, fun a ha j u hu => k.cell (h.cells a ha j u hu) (by rw [add_block]; exact hT a ha)⟩

inductive WSpec (σ : Type) where
  | pure (X : (Nat → σ) → Value)
  | grow (row : Option Nat) (pre : World → Prop) (V : σ → Value) (F : σ → World → Prop)
section
variable {σ : Type}
def WSpec.val (s : WSpec σ) (i : Nat) (t : Nat → σ) : Value :=
  match s with
  | .pure X => X t
  | .grow _ _ V _ => V (t i)
def WSpec.fact (s : WSpec σ) (i : Nat) (t : Nat → σ) (w : World) : Prop :=
  match s with
  | .pure _ => True
  | .grow _ _ _ F => F (t i) w
def WSpec.pre (s : WSpec σ) (w : World) : Prop :=
  match s with
  | .pure _ => True
  | .grow _ p _ _ => p w
def WSpec.row (s : WSpec σ) : Option Nat :=
  match s with
  | .pure _ => none
  | .grow r _ _ _ => r
def but (T : Nat → Prop) (row : Option Nat) : Nat → Prop := fun k => T k ∧ some k ≠ row
def WSpec.stays (T : Nat → Prop) (s : WSpec σ) : Prop := (∀ g, s.row = some g → T g) ∧ (∀ w w', s.pre w → GrowS (but T s.row) w w' → s.pre w') ∧ ∀ i t w w', s.fact i t w → GrowS (but T s.row) w w' → s.fact i t w'
def wspecAt (E : Nat) (L : List (WSpec σ)) (i : Nat) : WSpec σ := if E.testBit i then .pure (fun _ => undef) else L.getD i (.pure fun _ => undef)
def WFacts (E : Nat) (L : List (WSpec σ)) (m : Nat) (t : Nat → σ) (w : World) : Prop := ∀ j, m.testBit j = true → (wspecAt E L j).fact j t w
theorem WFacts.get {E : Nat} {L : List (WSpec σ)} {m : Nat} {t : Nat → σ} {w : World} (h : WFacts E L m t w) (j : Nat) {r : Option Nat} {p : World → Prop} {V : σ → Value} {F : σ → World → Prop} (hL : L[j]? = some (.grow r p V F)) (hE : E.testBit j = false) (hm : m.testBit j = true) : F (t j) w := by
  have := h j hm
  rw [wspecAt, if_neg (by simp [hE]), List.getD, hL] at this
  exact this
def wvals (E : Nat) (L : List (WSpec σ)) (t : Nat → σ) : Nat → Value := fun i => (wspecAt E L i).val i t
end

def dstE (ops : Array Oper) (E : Nat) (i : Nat) : Option Tmp := if E.testBit i then none else dstOf ops i
theorem dstE_some {ops : Array Oper} {E i : Nat} {d : Tmp} (h : dstE ops E i = some d) : dstOf ops i = some d ∧ E.testBit i = false := by
  unfold dstE at h
  split at h
  · cases h
  · rename_i hE; exact ⟨h, by simpa using hE⟩
theorem dstE_not {ops : Array Oper} {E i : Nat} (h : E.testBit i = false) : dstE ops E i = dstOf ops i := by simp [dstE, h]
def wacts (D : Nat → Option Tmp) (a0 : Act) (f : Nat → Value) : Nat → Act
  | 0 => a0
  | k + 1 => (wacts D a0 f k).put (D k) (f k)
section
variable {D : Nat → Option Tmp} {a0 : Act} {f g : Nat → Value}
theorem wacts_size : ∀ k, (wacts D a0 f k).tmps.size = a0.tmps.size
  | 0 => rfl
  | k + 1 => by rw [wacts, put_size, wacts_size k]
theorem wacts_defers : ∀ k, (wacts D a0 f k).defers = a0.defers
  | 0 => rfl
  | k + 1 => by rw [wacts, put_defers', wacts_defers k]
theorem wacts_none {d : Tmp} : ∀ k, (∀ m, m < k → D m ≠ some d) → (wacts D a0 f k).tmps[d]? = a0.tmps[d]?
  | 0, _ => rfl
  | k + 1, h => by rw [wacts, put_get_ne _ _ _ (h k (by omega)), wacts_none k fun m hm => h m (by omega)]
theorem wacts_some {d : Tmp} {m : Nat} (hm : D m = some d) (hu : ∀ m', D m' = some d → m' = m) : ∀ k, m < k → (wacts D a0 f k).tmps[d]? = if d < a0.tmps.size then some (f m) else none
  | 0, h => by omega
  | k + 1, h => by
    by_cases e : m = k
    · subst e
      rw [wacts, hm, put_get_same, wacts_size]
    · rw [wacts, put_get_ne _ _ _ (fun hk => e (hu k hk).symm), wacts_some hm hu k (by omega)]
theorem wacts_congr : ∀ k, (∀ i, i < k → f i = g i) → wacts D a0 f k = wacts D a0 g k
  | 0, _ => rfl
  | k + 1, h => by rw [wacts, wacts, wacts_congr k fun i hi => h i (by omega), h k (by omega)]
end

section
variable {P : Program} {ops : Array Oper} {Q : Exit → Act → World → Prop} {σ : Type} {T : Nat → Prop} {E : Nat} {w0 : World} {a0 : Act}

/-- Those that are taken first wait for none but such ones. -/
def earlyOk (ops : Array Oper) (E : Nat) : Bool := (List.range ops.size).all fun i => !E.testBit i || Nat.beq (maskAt ops i &&& E) (maskAt ops i)
def Early (ops : Array Oper) (E : Nat) : Prop := ∀ i, i < ops.size → E.testBit i = true → ∀ j, (maskAt ops i).testBit j = true → E.testBit j = true
theorem early_of (h : earlyOk ops E = true) : Early ops E := by
  intro i hi hE j hj
  simp only [earlyOk, List.all_eq_true, List.mem_range] at h
  have h1 := h i hi
  rw [hE] at h1
  simp only [Bool.not_true, Bool.false_or] at h1
  have h2 := Nat.eq_of_beq_eq_true h1
  rw [← h2, Nat.testBit_and] at hj
  simp only [Bool.and_eq_true] at hj
  exact hj.2

/-- What is to be shown of operation i. -/
def WOb (P : Program) (ops : Array Oper) (T : Nat → Prop) (E : Nat) (w0 : World) (a0 : Act) (L : List (WSpec σ)) (i : Nat) : Prop :=
  E.testBit i = false → ∀ o, ops[i]? = some o →
  match wspecAt E L i with
  | .pure X => ∀ t w, GrowS T w0 w → WFacts E L (maskAt ops i) t w →
      (Region.wanted o (yielded ops (wacts (dstE ops E) a0 (wvals E L t) i).tmps) = true ∧ ((execOp (wacts (dstE ops E) a0 (wvals E L t) i).eval o).run P w = .ok (.value (X t)) w ∨ ((execOp (wacts (dstE ops E) a0 (wvals E L t) i).eval o).run P w = .ok .skip w ∧ X t = undef))) ∨
      (Region.wanted o (yielded ops (wacts (dstE ops E) a0 (wvals E L t) i).tmps) = false ∧ X t = undef)
  | .grow row pre V F => ∀ t w, GrowS T w0 w → WFacts E L (maskAt ops i) t w → pre w →
      Region.wanted o (yielded ops (wacts (dstE ops E) a0 (wvals E L t) i).tmps) = true ∧ ∀ K : Act → World → Prop, (∀ s w', w.grownBy w' row → F s w' → K ((wacts (dstE ops E) a0 (wvals E L t) i).put o.dst (V s)) w') → Oper.wp P o (wacts (dstE ops E) a0 (wvals E L t) i) w K NoEx

theorem wacts_look (hg : Good ops) {f g : Nat → Value} {i : Nat} {o : Oper} (ho : ops[i]? = some o) (h : ∀ j, (maskAt ops i).testBit j = true → E.testBit j = false → f j = g j) :
    ∀ d ∈ o.looksAt ops, (wacts (dstE ops E) a0 f i).tmps[d]? = (wacts (dstE ops E) a0 g i).tmps[d]? := by
  intro d hd
  have hi := (Array.getElem?_eq_some_iff.1 ho).1
  by_cases hm : ∃ m, m < i ∧ dstE ops E m = some d
  · obtain ⟨m, hlt, hm⟩ := hm
    obtain ⟨hm1, hm2⟩ := dstE_some hm
    have one : ∀ m', dstE ops E m' = some d → m' = m := fun m' h' => hg.one _ _ _ (dstE_some h').1 hm1
    rw [wacts_some hm one i hlt, wacts_some hm one i hlt]
    rcases hg.looks i m o d ho (by omega) hm1 hd with h1 | h1
    · rw [h m h1 hm2]
    · have := (hg.sub m (by omega) i h1).1
      omega
  · rw [wacts_none i fun m hlt he => hm ⟨m, hlt, he⟩, wacts_none i fun m hlt he => hm ⟨m, hlt, he⟩]

theorem wvals_loc (hg : Good ops) {L : List (WSpec σ)} {kk : Nat} (hkk : kk ≤ ops.size) (hob : ∀ i, i < kk → WOb P ops T E w0 a0 L i) {t t' : Nat → σ} {w : World} (hw : GrowS T w0 w) :
    ∀ m, m < kk → WFacts E L (maskAt ops m) t w → (∀ j, (maskAt ops m).testBit j = true → t j = t' j) → t m = t' m → wvals E L t m = wvals E L t' m := by
  intro m
  induction m using Nat.strongRecOn with
  | _ m ih =>
    intro hmk hF ht htm
    have hm : m < ops.size := by omega
    obtain ⟨o, ho⟩ : ∃ o, ops[m]? = some o := ⟨_, Array.getElem?_eq_getElem hm⟩
    by_cases hE : E.testBit m = true
    · simp [wvals, wspecAt, hE, WSpec.val]
    have hE : E.testBit m = false := by simpa using hE
    have h1 := hob m hmk hE o ho
    cases hs : wspecAt E L m with
    | grow r p V F => simp only [wvals, hs, WSpec.val, htm]
    | pure X =>
      rw [hs] at h1
      simp only at h1
      have hF' : WFacts E L (maskAt ops m) t' w := by
        intro j hj
        have := hF j hj
        cases hsj : wspecAt E L j with
        | pure _ => trivial
        | grow r p V F => rw [hsj] at this; simp only [WSpec.fact] at this ⊢; rw [← ht j hj]; exact this
      have hv : ∀ j, (maskAt ops m).testBit j = true → E.testBit j = false → wvals E L t j = wvals E L t' j := by
        intro j hj _
        obtain ⟨hlt, hsub⟩ := hg.sub m hm j hj
        exact ih j hlt (by omega) (fun k hk => hF k (hsub k hk)) (fun k hk => ht k (hsub k hk)) (ht j hj)
      obtain ⟨he, hwt⟩ := same_exec (ops := ops) (fun cs b => hg.sel m o cs b ho) (wacts_look (a0 := a0) (E := E) hg ho hv)
      have a1 := h1 t w hw hF
      have a2 := h1 t' w hw hF'
      rw [← he, ← hwt] at a2
      show (wspecAt E L m).val m t = (wspecAt E L m).val m t'
      rw [hs]
      show X t = X t'
      rcases a1 with ⟨b1, c1⟩ | ⟨b1, c1⟩ <;> rcases a2 with ⟨b2, c2⟩ | ⟨b2, c2⟩
      · rcases c1 with c1 | ⟨c1, d1⟩ <;> rcases c2 with c2 | ⟨c2, d2⟩
        · rw [c1] at c2; injection c2 with c2; injection c2
        · rw [c1] at c2; injection c2 with c2; cases c2
        · rw [c1] at c2; injection c2 with c2; cases c2
        · rw [d1, d2]
      · rw [b1] at b2; cases b2
      · rw [b1] at b2; cases b2
      · rw [c1, c2]

/-- How far a run has come. -/
structure WAt (ops : Array Oper) (T : Nat → Prop) (E : Nat) (a0 : Act) (w0 : World) (L : List (WSpec σ)) (listed : Array Bool) (t : Nat → σ) (a : Act) (w : World) : Prop where
  size : listed.size = ops.size
  first : ∀ i, i < ops.size → E.testBit i = true → listed.getD i false = true
  grow : GrowS T w0 w
  down : ∀ i, i < ops.size → listed.getD i false = true → ∀ j, (maskAt ops i).testBit j = true → listed.getD j false = true
  fact : ∀ i, listed.getD i false = true → (wspecAt E L i).fact i t w
  pre : ∀ i, listed.getD i false = false → (wspecAt E L i).pre w
  defers : a.defers = a0.defers
  tsize : a.tmps.size = a0.tmps.size
  some_ : ∀ d m, listed.getD m false = true → dstE ops E m = some d → a.tmps[d]? = if d < a0.tmps.size then some (wvals E L t m) else none
  none_ : ∀ d, (∀ m, listed.getD m false = true → dstE ops E m ≠ some d) → a.tmps[d]? = a0.tmps[d]?

theorem WAt.look (hg : Good ops) {L : List (WSpec σ)} {listed : Array Bool} {t : Nat → σ} {a : Act} {w : World} (h : WAt ops T E a0 w0 L listed t a w) {i : Nat} {o : Oper} (ho : ops[i]? = some o)
    (hun : listed.getD i false = false) (hall : ∀ j, (maskAt ops i).testBit j = true → listed.getD j false = true) :
    ∀ d ∈ o.looksAt ops, a.tmps[d]? = (wacts (dstE ops E) a0 (wvals E L t) i).tmps[d]? := by
  intro d hd
  have hi := (Array.getElem?_eq_some_iff.1 ho).1
  by_cases hm : ∃ m, dstE ops E m = some d ∧ m ≠ i
  · obtain ⟨m, hm0, hne⟩ := hm
    obtain ⟨hm, hmE⟩ := dstE_some hm0
    have one : ∀ m', dstE ops E m' = some d → m' = m := fun m' h' => hg.one _ _ _ (dstE_some h').1 hm
    have hml := dst_lt hm
    rcases hg.looks i m o d ho hne hm hd with h1 | h1
    · have hlt := (hg.sub i hi m h1).1
      rw [h.some_ d m (hall m h1) hm0, wacts_some hm0 one i hlt]
    · have hlt := (hg.sub m hml i h1).1
      have hum : listed.getD m false = false := by
        cases hx : listed.getD m false with
        | false => rfl
        | true => have := h.down m hml hx i h1; rw [hun] at this; cases this
      rw [h.none_ d (fun m' hl he => by have := one _ he; subst this; rw [hum] at hl; cases hl), wacts_none i (fun m' hl he => by have := one _ he; omega)]
  · rw [h.none_ d (fun m' hl he => hm ⟨m', he, fun e => by subst e; rw [hun] at hl; cases hl⟩), wacts_none i (fun m' hl he => hm ⟨m', he, by omega⟩)]

theorem wvals_upd (hg : Good ops) {L : List (WSpec σ)} {kk : Nat} (hkk : kk ≤ ops.size) (hob : ∀ i, i < kk → WOb P ops T E w0 a0 L i) {listed : Array Bool} {t : Nat → σ} {a : Act} {w : World} (h : WAt ops T E a0 w0 L listed t a w) {i : Nat} (hun : listed.getD i false = false) (hlk : ∀ i, listed.getD i false = true → i < kk ∨ E.testBit i = true) (s : σ) :
    ∀ m, listed.getD m false = true → wvals E L (upd t i s) m = wvals E L t m := by
  intro m hl
  by_cases hE : E.testBit m = true
  · simp [wvals, wspecAt, hE, WSpec.val]
  have hm : m < ops.size := by have := getD_oob hl; rw [h.size] at this; exact this
  have hne : m ≠ i := fun e => by subst e; rw [hun] at hl; cases hl
  have hmk : m < kk := by rcases hlk m hl with h1 | h1; exact h1; exact absurd h1 hE
  refine (wvals_loc hg hkk hob h.grow m hmk (fun j hj => h.fact j (h.down m hm hl j hj)) (fun j hj => ?_) ?_).symm
  · have hjl := h.down m hm hl j hj
    rw [upd_ne]
    intro e
    subst e
    rw [hun] at hjl
    cases hjl
  · rw [upd_ne _ _ _ hne]

/-- One operation more. -/
theorem WAt.next (hg : Good ops) {L : List (WSpec σ)} {kk : Nat} (hkk : kk ≤ ops.size) (hob : ∀ i, i < kk → WOb P ops T E w0 a0 L i) (hst : ∀ i, (wspecAt E L i).stays T) {listed : Array Bool} {t : Nat → σ} {a : Act} {w w' : World} (h : WAt ops T E a0 w0 L listed t a w) {i : Nat} (hi : i < ops.size)
    (hun : listed.getD i false = false) (hall : ∀ j, (maskAt ops i).testBit j = true → listed.getD j false = true) (hlk : ∀ i, listed.getD i false = true → i < kk ∨ E.testBit i = true) (s : σ) (hgr : GrowS T w w') (hx : ∀ m, m ≠ i → GrowS (but T (wspecAt E L m).row) w w')
    (hf : (wspecAt E L i).fact i (upd t i s) w') {v : Value} (hv : v = wvals E L (upd t i s) i) :
    WAt ops T E a0 w0 L (listed.setIfInBounds i true) (upd t i s) (a.put (dstOf ops i) v) w' := by
  have hiE : E.testBit i = false := by
    cases hE : E.testBit i with
    | false => rfl
    | true => have := h.first i hi hE; rw [hun] at this; cases this
  have hset : ∀ m, (listed.setIfInBounds i true).getD m false = true → m = i ∨ listed.getD m false = true := by
    intro m hm
    by_cases e : m = i
    · exact .inl e
    · rw [getD_set_ne false (Ne.symm e)] at hm; exact .inr hm
  have hvu := wvals_upd hg hkk hob h hun hlk s
  refine ⟨by rw [Array.size_setIfInBounds]; exact h.size, fun m hm hE => getD_set_true (h.first m hm hE), h.grow.trans hgr, fun m hm hl0 j hj => ?_, fun m hl0 => ?_, fun m hl0 => ?_, by rw [put_defers', h.defers], by rw [put_size, h.tsize], fun d m hl0 hd => ?_, fun d hd => ?_⟩
  · rcases hset m hl0 with rfl | hl
    · exact getD_set_true (hall j hj)
    · exact getD_set_true (h.down m hm hl j hj)
  · rcases hset m hl0 with rfl | hl
    · exact hf
    · have hne : m ≠ i := fun e => by subst e; rw [hun] at hl; cases hl
      have h1 := h.fact m hl
      have h2 := (hst m).2.2 m (upd t i s)
      refine h2 w w' ?_ (hx m hne)
      cases hs : wspecAt E L m with
      | pure _ => trivial
      | grow r p V F =>
        rw [hs] at h1
        simp only [WSpec.fact] at h1 ⊢
        rw [upd_ne _ _ _ hne]
        exact h1
  · have hne : m ≠ i := fun e => by
      subst e
      rw [getD_set_self (by rw [h.size]; exact hi)] at hl0
      cases hl0
    rw [getD_set_ne false (Ne.symm hne)] at hl0
    exact (hst m).2.1 w w' (h.pre m hl0) (hx m hne)
  · rcases hset m hl0 with rfl | hl
    · rw [dstE_not hiE] at hd
      rw [hd, put_get_same, h.tsize, hv]
    · have hne : m ≠ i := fun e => by subst e; rw [hun] at hl; cases hl
      rw [put_get_ne _ _ _ (fun he => hne (hg.one _ _ _ (dstE_some hd).1 he)), h.some_ d m hl hd, hvu m hl]
  · rw [put_get_ne _ _ _ (by have := hd i (getD_set_self (by rw [h.size]; exact hi)); rwa [dstE_not hiE] at this), h.none_ d fun m hl => hd m (getD_set_true hl)]

/-- From operation k on each waits for all ahead of it, but for those that are taken first. -/
def wtailOk (ops : Array Oper) (E k : Nat) : Bool := (List.range ops.size).all fun i => Nat.blt i k || E.testBit i || Nat.beq (maskAt ops i ||| (E % 2 ^ i)) (2 ^ i - 1)
def WTail (ops : Array Oper) (E k : Nat) : Prop := ∀ i, k ≤ i → i < ops.size → E.testBit i = false → ∀ j, j < i → E.testBit j = false → (maskAt ops i).testBit j = true
theorem wtail_of {k : Nat} (h : wtailOk ops E k = true) : WTail ops E k := by
  intro i hk hi hE j hj hjE
  simp only [wtailOk, List.all_eq_true, List.mem_range] at h
  have h1 := h i hi
  rw [Bool.or_eq_true, Bool.or_eq_true] at h1
  rcases h1 with (h1 | h1) | h1
  · have := Nat.le_of_ble_eq_true h1
    omega
  · rw [hE] at h1; cases h1
  · have h2 := Nat.eq_of_beq_eq_true h1
    have h3 : (maskAt ops i ||| (E % 2 ^ i)).testBit j = true := by rw [h2, Nat.testBit_two_pow_sub_one]; simp [hj]
    rw [Nat.testBit_or, Nat.testBit_mod_two_pow, hjE] at h3
    simpa using h3
theorem wtail_end : WTail ops E ops.size := fun i hk hi => by omega

theorem wseq_any (hg : Good ops) (hE : Early ops E) (Q : Exit → Act → World → Prop) : ∀ (m k : Nat), k + m = ops.size → WTail ops E k → ∀ (fuel : Nat) (listed : Array Bool) (a : Act) (w : World), listed.size = ops.size → left_ ops listed ≤ fuel →
    (∀ i, i < ops.size → (listed.getD i false = true ↔ i < k ∨ E.testBit i = true)) → wpOps P ops Q ((List.range' k m).filter fun i => !E.testBit i) a w → wpAny P .any ops Q fuel listed a w := by
  intro m
  induction m with
  | zero =>
    intro k hk _ fuel listed a w hs _ hl h
    refine wpAny_done ?_ h fuel
    refine List.eq_nil_iff_forall_not_mem.2 fun i hi => ?_
    obtain ⟨h2, o, ho, -⟩ := mem_ready.1 hi
    have hlt := (Array.getElem?_eq_some_iff.1 ho).1
    rw [getD_flip (by omega), (hl i hlt).2 (.inl (by omega))] at h2
    cases h2
  | succ m ih =>
    intro k hk ht fuel listed a w hs hf hl h
    have hkn : k < ops.size := by omega
    obtain ⟨ok, hok⟩ : ∃ o, ops[k]? = some o := ⟨_, Array.getElem?_eq_getElem hkn⟩
    rw [List.range'_succ] at h
    by_cases hkE : E.testBit k = true
    · rw [List.filter_cons_of_neg (by simp [hkE])] at h
      refine ih (k + 1) (by omega) (fun x hx => ht x (by omega)) fuel listed a w hs hf (fun i hi => ?_) h
      rw [hl i hi]
      constructor
      · rintro (h1 | h1)
        · exact .inl (by omega)
        · exact .inr h1
      · rintro (h1 | h1)
        · by_cases e : i = k
          · subst e; exact .inr hkE
          · exact .inl (by omega)
        · exact .inr h1
    have hkE : E.testBit k = false := by simpa using hkE
    rw [List.filter_cons_of_pos (by simp [hkE])] at h
    have hunk : listed.getD k false = false := by
      cases hx : listed.getD k false with
      | false => rfl
      | true => have := (hl k hkn).1 hx; rw [hkE] at this; rcases this with h1 | h1; omega; cases h1
    have hlf := left_lt hs hkn hunk
    obtain ⟨fuel, rfl⟩ : ∃ x, fuel = x + 1 := ⟨fuel - 1, by omega⟩
    have only : ∀ i, i ∈ Region.ready .any ops listed → i = k := by
      intro i hi
      obtain ⟨h2, o, ho, he⟩ := mem_ready.1 hi
      have hlt := (Array.getElem?_eq_some_iff.1 ho).1
      rw [getD_flip (by omega)] at h2
      have hiE : E.testBit i = false := by
        cases hx : E.testBit i with
        | false => rfl
        | true => rw [(hl i hlt).2 (.inr hx)] at h2; cases h2
      rcases Nat.lt_trichotomy i k with h3 | h3 | h3
      · rw [(hl i hlt).2 (.inl h3)] at h2; cases h2
      · exact h3
      · obtain ⟨e, hem, hb, hx⟩ := hg.bit i o k ho (ht i (by omega) hlt hiE k h3 hkE)
        have hel := he e hem hb
        have hei := hg.lt i o ho e hem hb
        have h4 := (hl e.on (by omega)).1 hel
        rcases hx with rfl | hx
        · rw [hkE] at h4; rcases h4 with h4 | h4; omega; cases h4
        · have := (hg.sub e.on (by omega) k hx).1
          rcases h4 with h4 | h4
          · omega
          · have := hE e.on (by omega) h4 k hx
            rw [hkE] at this; cases this
    refine ⟨fun hr => ?_, fun i hi => ?_⟩
    · have : k ∈ Region.ready .any ops listed := mem_ready.2 ⟨by rw [getD_flip (by omega)]; exact hunk, ok, hok, fun e he hb => (hl e.on (by have := hg.lt k ok hok e he hb; omega)).2 (.inl (hg.lt k ok hok e he hb))⟩
      rw [hr] at this
      cases this
    · obtain rfl := only i hi
      rw [wpOps_cons] at h
      refine wpOp_mono (fun a' w' h' => ih (i + 1) (by omega) (fun x hx => ht x (by omega)) fuel _ a' w' (by rw [Array.size_setIfInBounds]; exact hs) (by omega) (fun x hx => ?_) h') h
      by_cases e : x = i
      · subst e
        rw [getD_set_self (by omega)]
        simp
      · rw [getD_set_ne false (Ne.symm e), hl x hx]
        constructor
        · rintro (h1 | h1)
          · exact .inl (by omega)
          · exact .inr h1
        · rintro (h1 | h1)
          · exact .inl (by omega)
          · exact .inr h1

theorem wfacts_any (hg : Good ops) (hE : Early ops E) {L : List (WSpec σ)} {k : Nat} (hk : k ≤ ops.size) (ht : WTail ops E k) (hob : ∀ i, i < k → WOb P ops T E w0 a0 L i) (hst : ∀ i, (wspecAt E L i).stays T)
    (hrow : ∀ i j, i ≠ j → (wspecAt E L i).row = none ∨ (wspecAt E L i).row ≠ (wspecAt E L j).row)
    (hfin : ∀ t w, GrowS T w0 w → WFacts E L (2 ^ k - 1) t w → wpOps P ops Q ((List.range' k (ops.size - k)).filter fun i => !E.testBit i) (wacts (dstE ops E) a0 (wvals E L t) k) w) :
    ∀ (fuel : Nat) (listed : Array Bool) (t : Nat → σ) (a : Act) (w : World), left_ ops listed ≤ fuel → (∀ i, listed.getD i false = true → i < k ∨ E.testBit i = true) → WAt ops T E a0 w0 L listed t a w → wpAny P .any ops Q fuel listed a w := by
  have fin : ∀ (fuel : Nat) (listed : Array Bool) (t : Nat → σ) (a : Act) (w : World), left_ ops listed ≤ fuel → (∀ i, listed.getD i false = true → i < k ∨ E.testBit i = true) → WAt ops T E a0 w0 L listed t a w → (∀ i, i < k → listed.getD i false = true) → wpAny P .any ops Q fuel listed a w := by
    intro fuel listed t a w hfu hlk h hl
    have e : a = wacts (dstE ops E) a0 (wvals E L t) k := by
      have e1 : a.tmps = (wacts (dstE ops E) a0 (wvals E L t) k).tmps := by
        refine Array.ext_getElem? fun d => ?_
        by_cases hm : ∃ m, m < k ∧ dstE ops E m = some d
        · obtain ⟨m, hmk, hm⟩ := hm
          rw [h.some_ d m (hl m hmk) hm, wacts_some hm (fun m' h' => hg.one _ _ _ (dstE_some h').1 (dstE_some hm).1) _ hmk]
        · rw [h.none_ d (fun m hml he => hm ⟨m, (hlk m hml).resolve_right (fun h1 => by rw [(dstE_some he).2] at h1; cases h1), he⟩), wacts_none _ (fun m hml he => hm ⟨m, hml, he⟩)]
      have e2 : a.defers = (wacts (dstE ops E) a0 (wvals E L t) k).defers := by rw [h.defers, wacts_defers]
      cases a
      generalize wacts (dstE ops E) a0 (wvals E L t) k = b at *
      cases b
      simp only at e1 e2
      subst e1 e2
      rfl
    rw [e]
    refine wseq_any hg hE Q (ops.size - k) k (by omega) ht fuel listed _ w h.size hfu (fun i hi => ⟨hlk i, fun h1 => ?_⟩) (hfin t w h.grow fun j hj => h.fact j (hl j ?_))
    · rcases h1 with h1 | h1
      · exact hl i h1
      · exact h.first i hi h1
    · rw [Nat.testBit_two_pow_sub_one] at hj
      simpa using hj
  have nil : ∀ (listed : Array Bool), listed.size = ops.size → Region.ready .any ops listed = [] → ∀ i, i < ops.size → listed.getD i false = true := by
    intro listed hs hr i
    induction i using Nat.strongRecOn with
    | _ i ih =>
      intro hi
      obtain ⟨o, ho⟩ : ∃ o, ops[i]? = some o := ⟨_, Array.getElem?_eq_getElem hi⟩
      cases hx : listed.getD i false with
      | true => rfl
      | false =>
        have : i ∈ Region.ready .any ops listed := mem_ready.2 ⟨by rw [getD_flip (by omega)]; exact hx, o, ho, fun e he hb => ih e.on (hg.lt i o ho e he hb) (by have := hg.lt i o ho e he hb; omega)⟩
        rw [hr] at this
        cases this
  intro fuel
  induction fuel with
  | zero =>
    intro listed t a w hl hlk h
    have hall : ∀ i, i < k → listed.getD i false = true := by
      intro i hi
      cases hx : listed.getD i false with
      | true => rfl
      | false =>
        have := left_lt h.size (show i < ops.size by omega) hx
        omega
    exact fin 0 listed t a w hl hlk h hall
  | succ fuel ih =>
    intro listed t a w hl hlk h
    by_cases hdone : ∀ i, i < k → listed.getD i false = true
    · exact fin _ listed t a w hl hlk h hdone
    refine ⟨fun hr => absurd (fun i hi => nil listed h.size hr i (by omega)) hdone, fun i hi => ?_⟩
    obtain ⟨hun, o, ho, hedge⟩ := mem_ready.1 hi
    have hlt := (Array.getElem?_eq_some_iff.1 ho).1
    rw [getD_flip (by rw [h.size]; exact hlt)] at hun
    have hiE : E.testBit i = false := by
      cases hx : E.testBit i with
      | false => rfl
      | true => rw [h.first i hlt hx] at hun; cases hun
    have hall : ∀ j, (maskAt ops i).testBit j = true → listed.getD j false = true := by
      intro j hj
      obtain ⟨e, he, hb, hx⟩ := hg.bit i o j ho hj
      have hel := hedge e he hb
      rcases hx with rfl | hx
      · exact hel
      · exact h.down e.on (by have := hg.lt i o ho e he hb; omega) hel j hx
    have hik : i < k := by
      rcases Nat.lt_or_ge i k with h1 | h1
      · exact h1
      · refine absurd (fun j hj => ?_) hdone
        by_cases hjE : E.testBit j = true
        · exact h.first j (by omega) hjE
        · exact hall j (ht i h1 hlt hiE j (by omega) (by simpa using hjE))
    have hlk' : ∀ m, (listed.setIfInBounds i true).getD m false = true → m < k ∨ E.testBit m = true := by
      intro m hm
      by_cases e : m = i
      · exact .inl (by omega)
      · rw [getD_set_ne false (Ne.symm e)] at hm
        exact hlk m hm
    have hF : WFacts E L (maskAt ops i) t w := fun j hj => h.fact j (hall j hj)
    obtain ⟨he, hwt⟩ := same_exec (ops := ops) (fun cs b => hg.sel i o cs b ho) (h.look hg ho hun hall)
    have hdo : dstOf ops i = o.dst := by simp [dstOf, ho]
    have hlf := left_lt h.size hlt hun
    have hob1 := hob i hik hiE o ho
    cases hs : wspecAt E L i with
    | pure X =>
      rw [hs] at hob1
      simp only at hob1
      have go : ∀ v, v = X t → wpAny P .any ops Q fuel (listed.setIfInBounds i true) (a.put o.dst v) w := by
        intro v hv
        have hu : upd t i (t i) = t := by funext j; by_cases e : j = i <;> simp [upd, e]
        have := h.next hg hk hob hst hlt hun hall hlk (t i) (GrowS.refl T w) (fun m _ => GrowS.refl _ w) (by rw [hs]; trivial) (v := v) (by rw [hu, hv]; show X t = (wspecAt E L i).val i t; rw [hs]; rfl)
        rw [hdo] at this
        exact ih _ _ _ _ (by omega) hlk' this
      unfold wpOp
      rw [ho]
      rcases hob1 t w h.grow hF with ⟨h1, h2⟩ | ⟨h1, h2⟩
      · simp only [hwt.trans h1, if_true]
        refine .inl ?_
        unfold Oper.wp
        rw [he]
        rcases h2 with h2 | ⟨h2, h3⟩
        · rw [h2]; exact go _ rfl
        · rw [h2]; exact go _ h3.symm
      · simp only [hwt.trans h1, Bool.false_eq_true, if_false]
        exact go _ h2.symm
    | grow r p V F =>
      rw [hs] at hob1
      simp only at hob1
      have hpre : p w := by have := h.pre i hun; rw [hs] at this; exact this
      obtain ⟨h1, h2⟩ := hob1 t w h.grow hF hpre
      refine wpOp_of ho (b := wacts (dstE ops E) a0 (wvals E L t) i) (R := fun v w' => ∃ s, v = V s ∧ w.grownBy w' r ∧ F s w') (by rw [h.tsize, wacts_size]) (by rw [hwt]; exact h1) he
        (h2 _ fun s w' hgr hf => ⟨_, rfl, s, rfl, hgr, hf⟩) ?_
      rintro v w' ⟨s, rfl, hgr, hf⟩
      have hrT : ∀ g, r = some g → T g := by have := (hst i).1; rw [hs] at this; exact this
      have hx : ∀ m, m ≠ i → GrowS (but T (wspecAt E L m).row) w w' := by
        intro m hm
        refine hgr.wide fun g hg' => ⟨hrT g hg', fun e => ?_⟩
        have := hrow m i hm
        rw [hs] at this
        rcases this with h3 | h3
        · rw [h3] at e; cases e
        · exact h3 (by show _ = r; rw [hg']; exact e.symm)
      have := h.next hg hk hob hst hlt hun hall hlk s (hgr.wide hrT) hx (by rw [hs]; simp only [WSpec.fact, upd_same]; exact hf) (v := V s) (by show V s = (wspecAt E L i).val i (upd t i s); rw [hs]; simp only [WSpec.val, upd_same])
      rw [hdo] at this
      exact ih _ _ _ _ (by omega) hlk' this

/-- The walk, before operation k. -/
def WChain (P : Program) (ops : Array Oper) (Q : Exit → Act → World → Prop) (T : Nat → Prop) (E : Nat) (w0 : World) (a0 : Act) (k : Nat) (L : List (WSpec σ)) (B : (Nat → σ) → Act) (R : List Oper) : Prop :=
  (ops.toList.drop k = R ∧ k ≤ ops.size) → L.length = k → (∀ t, B t = wacts (dstE ops E) a0 (wvals E L t) k) →
    ∃ (M : List (WSpec σ)) (n : Nat), k ≤ n ∧ n ≤ ops.size ∧ WTail ops E n ∧ (∀ i, i < k → wspecAt E M i = wspecAt E L i) ∧ (∀ i, k ≤ i → i < n → WOb P ops T E w0 a0 M i) ∧
      (∀ i, k ≤ i → (wspecAt E M i).stays T ∧ (wspecAt E M i).pre w0 ∧ ∀ j, j < i → (wspecAt E M i).row = none ∨ (wspecAt E M i).row ≠ (wspecAt E M j).row) ∧
      ∀ t w, GrowS T w0 w → WFacts E M (2 ^ n - 1) t w → wpOps P ops Q ((List.range' n (ops.size - n)).filter fun i => !E.testBit i) (wacts (dstE ops E) a0 (wvals E M t) n) w

theorem wspecAt_snoc (L : List (WSpec σ)) (s : WSpec σ) (h : E.testBit L.length = false) : wspecAt E (L ++ [s]) L.length = s := by simp [wspecAt, h]
theorem wspecAt_app (L : List (WSpec σ)) (s : WSpec σ) {i : Nat} (h : i < L.length) : wspecAt E (L ++ [s]) i = wspecAt E L i := by simp [wspecAt, List.getElem?_append_left h]
theorem wvals_congr {L M : List (WSpec σ)} {k : Nat} (h : ∀ i, i < k → wspecAt E M i = wspecAt E L i) (t : Nat → σ) : ∀ i, i < k → wvals E M t i = wvals E L t i := fun i hi => by unfold wvals; rw [h i hi]

def listsE (listed : Array Bool) (n E : Nat) : Bool := Nat.beq listed.size n && (List.range n).all fun i => listed.getD i false == E.testBit i
theorem WChain.from {Q : Exit → Act → World → Prop} {a : Act} {w w1 : World} {fuel : Nat} {listed : Array Bool} (σ : Type) [Inhabited σ] {R : List Oper} (T : Nat → Prop) (E : Nat) (hok : opsOk R.toArray = true) (hE : earlyOk R.toArray E = true)
    (hl : listsE listed R.toArray.size E = true) (hfu : Nat.ble (left_ R.toArray listed) fuel = true) (hw : Grow w w1)
    (h0 : Good R.toArray → WChain (σ := σ) P R.toArray Q T E w a 0 [] (fun _ => a) R) : wpAny P .any R.toArray Q fuel listed a w1 := by
  generalize hops : R.toArray = ops at *
  have hg := good_of hok
  have hE := early_of hE
  obtain ⟨M, n, -, hnn, hT, -, h2, h3, h4⟩ := h0 hg ⟨by rw [← hops]; rfl, Nat.zero_le _⟩ rfl (fun _ => rfl)
  simp only [listsE, Bool.and_eq_true, List.all_eq_true, List.mem_range, beq_iff_eq] at hl
  obtain ⟨hs, hl⟩ := hl
  have hs := Nat.eq_of_beq_eq_true hs
  have hlE : ∀ i, listed.getD i false = true → E.testBit i = true := by
    intro i hi
    have := getD_oob hi
    rw [← hl i (by omega)]; exact hi
  refine wfacts_any hg hE hnn hT (fun i hi => h2 i (Nat.zero_le _) hi) (fun i => (h3 i (Nat.zero_le _)).1) (fun i j hij => ?_) h4 fuel _ (fun _ => default) a _ (Nat.le_of_ble_eq_true hfu) (fun i hi => .inr (hlE i hi)) ?_
  · rcases Nat.lt_or_ge j i with h5 | h5
    · exact (h3 i (Nat.zero_le _)).2.2 j h5
    · rcases (h3 j (Nat.zero_le _)).2.2 i (by omega) with h6 | h6
      · cases hr : (wspecAt E M i).row with
        | none => exact .inl rfl
        | some g => exact .inr (by rw [h6]; intro h; cases h)
      · exact .inr h6.symm
  · refine ⟨hs, fun i hi hEi => by rw [hl i hi]; exact hEi, hw.wide T, fun i hi hli j hj => ?_, fun i hli => ?_, fun i _ => (h3 i (Nat.zero_le _)).1.2.1 _ _ (h3 i (Nat.zero_le _)).2.1 (hw.wide _), rfl, rfl, fun d m hlm hd => ?_, fun d _ => rfl⟩
    · have h5 := hE i hi (hlE i hli) j hj
      have h6 := (hg.sub i hi j hj).1
      rw [hl j (by omega)]; exact h5
    · simp [wspecAt, hlE i hli, WSpec.fact]
    · have := (dstE_some hd).2
      rw [hlE m hlm] at this; cases this

variable {k : Nat} {L : List (WSpec σ)} {B : (Nat → σ) → Act} {o : Oper} {R : List Oper}

theorem WChain.step (hok : Good ops) (s : WSpec σ) (hkE : E.testBit k = false) (hst : s.stays T) (hpre : s.pre w0) (hrow : ∀ j, j < k → s.row = none ∨ s.row ≠ (wspecAt E L j).row)
    (h : ops[k]? = some o → ∀ M : List (WSpec σ), wspecAt E M k = s → (∀ t w, WFacts E M (maskAt ops k) t w → WFacts E L (maskAt ops k) t w) → (∀ t, B t = wacts (dstE ops E) a0 (wvals E M t) k) → WOb P ops T E w0 a0 M k)
    (rest : WChain P ops Q T E w0 a0 (k + 1) (L ++ [s]) (fun t => (B t).put o.dst (s.val k t)) R) : WChain P ops Q T E w0 a0 k L B (o :: R) := by
  rintro ⟨hR, -⟩ hl hB
  have ho : ops[k]? = some o := by
    have := congrArg (fun l : List Oper => l[0]?) hR
    simpa using this
  have hk := (Array.getElem?_eq_some_iff.1 ho).1
  obtain ⟨M, n, hkn, hnn, hT, h1, h2, h3, h4⟩ := rest ⟨by rw [← List.tail_drop, hR]; rfl, by omega⟩ (by simp [hl]) (fun t => by
    show (B t).put o.dst (s.val k t) = _
    rw [wacts, hB t, wacts_congr k (wvals_congr (k := k) (L := L ++ [s]) (M := L) (fun i hi => (wspecAt_app L s (by omega)).symm) t)]
    have e1 : dstE ops E k = o.dst := by rw [dstE_not hkE]; simp [dstOf, ho]
    have e2 : wvals E (L ++ [s]) t k = s.val k t := by unfold wvals; rw [← hl, wspecAt_snoc _ _ (by rw [hl]; exact hkE)]
    rw [e1, e2])
  have hM : wspecAt E M k = s := by rw [h1 k (by omega), ← hl, wspecAt_snoc _ _ (by rw [hl]; exact hkE)]
  have hML : ∀ i, i < k → wspecAt E M i = wspecAt E L i := fun i hi => by rw [h1 i (by omega), wspecAt_app L s (by omega)]
  refine ⟨M, n, by omega, hnn, hT, hML, fun i hi hin => ?_, fun i hi => ?_, h4⟩
  · by_cases e : i = k
    · subst e
      refine h ho M hM (fun t w hF j hj => ?_) (fun t => by rw [hB t]; exact wacts_congr _ (fun i hi => (wvals_congr hML t i hi).symm))
      have hlt := (hok.sub i hk j hj).1
      rw [← hML j hlt]
      exact hF j hj
    · exact h2 i (by omega) hin
  · by_cases e : i = k
    · subst e; rw [hM]; exact ⟨hst, hpre, fun j hj => by rw [hML j hj]; exact hrow j hj⟩
    · exact h3 i (by omega)

/-- One of those that were taken first. -/
theorem WChain.was (hkE : E.testBit k = true)
    (rest : WChain P ops Q T E w0 a0 (k + 1) (L ++ [.pure fun _ => undef]) B R) : WChain P ops Q T E w0 a0 k L B (o :: R) := by
  rintro ⟨hR, -⟩ hl hB
  have ho : ops[k]? = some o := by
    have := congrArg (fun l : List Oper => l[0]?) hR
    simpa using this
  have hk := (Array.getElem?_eq_some_iff.1 ho).1
  obtain ⟨M, n, hkn, hnn, hT, h1, h2, h3, h4⟩ := rest ⟨by rw [← List.tail_drop, hR]; rfl, by omega⟩ (by simp [hl]) (fun t => by
    rw [wacts, hB t, wacts_congr k (wvals_congr (k := k) (L := L ++ [.pure fun _ => undef]) (M := L) (fun i hi => (wspecAt_app L _ (by omega)).symm) t)]
    have e1 : dstE ops E k = none := by simp [dstE, hkE]
    rw [e1]; rfl)
  have hML : ∀ i, i < k → wspecAt E M i = wspecAt E L i := fun i hi => by rw [h1 i (by omega), wspecAt_app L _ (by omega)]
  refine ⟨M, n, by omega, hnn, hT, hML, fun i hi hin => ?_, fun i hi => ?_, h4⟩
  · by_cases e : i = k
    · subst e
      intro hE
      rw [hkE] at hE; cases hE
    · exact h2 i (by omega) hin
  · by_cases e : i = k
    · subst e
      have : wspecAt E M i = .pure fun _ => undef := by simp [wspecAt, hkE]
      rw [this]
      exact ⟨⟨fun g hg => (by cases hg), fun _ _ _ _ => trivial, fun _ _ _ _ _ _ => trivial⟩, trivial, fun j hj => .inl rfl⟩
    · exact h3 i (by omega)

theorem pure_stays (X : (Nat → σ) → Value) : (WSpec.pure X).stays T := ⟨fun g hg => (by cases hg), fun _ _ _ _ => trivial, fun _ _ _ _ _ _ => trivial⟩

theorem WChain.pure (hg : Good ops) {X : (Nat → σ) → Value} (hkE : E.testBit k = false)
    (h : ∀ t w, GrowS T w0 w → WFacts E L (maskAt ops k) t w → Region.wanted o (yielded ops (B t).tmps) = true ∧ (execOp (B t).eval o).run P w = .ok (.value (X t)) w)
    (rest : WChain P ops Q T E w0 a0 (k + 1) (L ++ [.pure X]) (fun t => (B t).put o.dst (X t)) R) : WChain P ops Q T E w0 a0 k L B (o :: R) :=
  WChain.step hg (.pure X) hkE (pure_stays X) trivial (fun _ _ => .inl rfl) (fun ho M hM hF hB _ o' ho' => by
    rw [ho] at ho'
    injection ho' with ho'
    subst ho'
    rw [hM]
    intro t w hw hN
    have := h t w hw (hF t w hN)
    rw [hB t] at this
    exact .inl ⟨this.1, .inl this.2⟩) rest

theorem WChain.skip (hg : Good ops) (hkE : E.testBit k = false)
    (h : ∀ t, Region.wanted o (yielded ops (B t).tmps) = false)
    (rest : WChain P ops Q T E w0 a0 (k + 1) (L ++ [.pure fun _ => undef]) (fun t => (B t).put o.dst undef) R) : WChain P ops Q T E w0 a0 k L B (o :: R) :=
  WChain.step hg (.pure fun _ => undef) hkE (pure_stays _) trivial (fun _ _ => .inl rfl) (fun ho M hM hF hB _ o' ho' => by
    rw [ho] at ho'
    injection ho' with ho'
    subst ho'
    rw [hM]
    intro t w hw hN
    have := h t
    rw [hB t] at this
    exact .inr ⟨this, rfl⟩) rest

theorem WChain.idle (hg : Good ops) (hkE : E.testBit k = false)
    (h : ∀ t w, GrowS T w0 w → WFacts E L (maskAt ops k) t w → Region.wanted o (yielded ops (B t).tmps) = true ∧ (execOp (B t).eval o).run P w = .ok .skip w)
    (rest : WChain P ops Q T E w0 a0 (k + 1) (L ++ [.pure fun _ => undef]) (fun t => (B t).put o.dst undef) R) : WChain P ops Q T E w0 a0 k L B (o :: R) :=
  WChain.step hg (.pure fun _ => undef) hkE (pure_stays _) trivial (fun _ _ => .inl rfl) (fun ho M hM hF hB _ o' ho' => by
    rw [ho] at ho'
    injection ho' with ho'
    subst ho'
    rw [hM]
    intro t w hw hN
    have := h t w hw (hF t w hN)
    rw [hB t] at this
    exact .inl ⟨this.1, .inr ⟨this.2, rfl⟩⟩) rest

/-- A call, a new block: no old block is written. -/
theorem WChain.grow (hg : Good ops) (V : σ → Value) (F : σ → World → Prop) (hkE : E.testBit k = false) (hst : ∀ x w w', F x w → GrowS T w w' → F x w')
    (hw : ∀ t, Region.wanted o (yielded ops (B t).tmps) = true)
    (h : ∀ t w, GrowS T w0 w → WFacts E L (maskAt ops k) t w → ∀ K : Act → World → Prop, Hid' (∀ s w', Grow w w' → F s w' → K ((B t).put o.dst (V s)) w') → Oper.wp P o (B t) w K NoEx)
    (rest : WChain P ops Q T E w0 a0 (k + 1) (L ++ [.grow none (fun _ => True) V F]) (fun t => (B t).put o.dst (V (t k))) R) : WChain P ops Q T E w0 a0 k L B (o :: R) :=
  WChain.step hg (.grow none (fun _ => True) V F) hkE ⟨fun g hg => (by cases hg), fun _ _ _ _ => trivial, fun i t w w' hF hx => hst _ _ _ hF (hx.mono fun k hk => hk.1)⟩ trivial (fun _ _ => .inl rfl) (fun ho M hM hF hB _ o' ho' => by
    rw [ho] at ho'
    injection ho' with ho'
    subst ho'
    rw [hM]
    refine fun t w hgw hN _ => ⟨by rw [← hB t]; exact hw t, fun K hK => ?_⟩
    rw [← hB t]
    rw [← hB t] at hK
    exact h t w hgw (hF t w hN) K fun s w' hgr hf => hK s w' (Grow.only hgr) hf) rest

/-- .. where no row is written at all. -/
theorem WChain.growN (hg : Good ops) (V : σ → Value) (F : σ → World → Prop) (hkE : E.testBit k = false) (hst : ∀ x w w', F x w → Grow w w' → F x w')
    (hw : ∀ t, Region.wanted o (yielded ops (B t).tmps) = true)
    (h : ∀ t w, GrowS NoRow w0 w → WFacts E L (maskAt ops k) t w → ∀ K : Act → World → Prop, Hid' (∀ s w', Grow w w' → F s w' → K ((B t).put o.dst (V s)) w') → Oper.wp P o (B t) w K NoEx)
    (rest : WChain P ops Q NoRow E w0 a0 (k + 1) (L ++ [.grow none (fun _ => True) V F]) (fun t => (B t).put o.dst (V (t k))) R) : WChain P ops Q NoRow E w0 a0 k L B (o :: R) :=
  WChain.grow hg V F hkE (fun x w w' h k => hst x w w' h k.no) hw h rest

/-- A row is written. -/
theorem WChain.write (hg : Good ops) (g : Nat) (pre : World → Prop) (V : σ → Value) (F : σ → World → Prop) (hkE : E.testBit k = false) (hgT : T g) (hrow : ∀ s ∈ L, s.row ≠ some g) (hpre : pre w0)
    (hst0 : ∀ w w', pre w → GrowS (but T (some g)) w w' → pre w') (hst : ∀ x w w', F x w → GrowS (but T (some g)) w w' → F x w')
    (hw : ∀ t, Region.wanted o (yielded ops (B t).tmps) = true)
    (h : ∀ t w, GrowS T w0 w → WFacts E L (maskAt ops k) t w → pre w → ∀ K : Act → World → Prop, Hid' (∀ s w', w.grownBy w' (some g) → F s w' → K ((B t).put o.dst (V s)) w') → Oper.wp P o (B t) w K NoEx)
    (rest : WChain P ops Q T E w0 a0 (k + 1) (L ++ [.grow (some g) pre V F]) (fun t => (B t).put o.dst (V (t k))) R) : WChain P ops Q T E w0 a0 k L B (o :: R) :=
  WChain.step hg (.grow (some g) pre V F) hkE ⟨fun g' hg' => by injection hg' with hg'; subst hg'; exact hgT, hst0, fun i t w w' hF hx => hst _ _ _ hF hx⟩ hpre
    (fun j hj => .inr (by
      show some g ≠ _
      unfold wspecAt
      split
      · intro h; cases h
      · cases hLj : L[j]? with
        | none => rw [List.getD, hLj]; intro h; cases h
        | some s => rw [List.getD, hLj]; exact fun h => hrow s (List.mem_of_getElem? hLj) h.symm))
    (fun ho M hM hF hB _ o' ho' => by
    rw [ho] at ho'
    injection ho' with ho'
    subst ho'
    rw [hM]
    refine fun t w hgw hN hp => ⟨by rw [← hB t]; exact hw t, fun K hK => ?_⟩
    rw [← hB t]
    rw [← hB t] at hK
    exact h t w hgw (hF t w hN) hp K hK) rest

def restE (E : Nat) : Nat → List Oper → List Oper
  | _, [] => []
  | k, o :: R => bif E.testBit k then restE E (k + 1) R else o :: restE E (k + 1) R
theorem wpOps_rest : ∀ (R : List Oper) (k : Nat), (∀ j, R[j]? = ops[k + j]?) → wpOps P ops Q ((List.range' k R.length).filter fun i => !E.testBit i) = wpList P ops Q (restE E k R)
  | [], k, _ => by funext a w; simp [wpOps, wpList, restE]
  | o :: R, k, h => by
    have h0 : ops[k]? = some o := by simpa using (h 0).symm
    have ih := wpOps_rest R (k + 1) (fun j => by have := h (j + 1); simpa [Nat.add_assoc, Nat.add_comm 1 j] using this)
    rw [List.length_cons, List.range'_succ]
    cases hE : E.testBit k with
    | true => rw [List.filter_cons_of_neg (by simp [hE]), ih, restE, hE]; rfl
    | false =>
      rw [List.filter_cons_of_pos (by simp [hE]), restE, hE]
      funext a w
      simp only [wpOps, h0, wpList, ih, cond_false]
theorem restE_all (h : Nat.beq (E >>> k) 0 = true) : ∀ (R : List Oper) (j : Nat), k ≤ j → restE E j R = R
  | [], j, _ => rfl
  | o :: R, j, hj => by
    have h1 : E.testBit j = false := by
      have h2 := Nat.eq_of_beq_eq_true h
      have h3 := Nat.testBit_shiftRight E (i := k) (j := j - k)
      rw [h2, Nat.zero_testBit, show k + (j - k) = j by omega] at h3
      exact h3.symm
    rw [restE, h1, restE_all h R (j + 1) (by omega)]; rfl
theorem WChain.tail {R' : List Oper} (htl : WTail ops E k) (hR' : restE E k R = R') (h : ∀ t w, GrowS T w0 w → WFacts E L (2 ^ k - 1) t w → wpList P ops Q R' (B t) w) : WChain P ops Q T E w0 a0 k L B R := by
  rintro ⟨hR, hkn⟩ hl hB
  subst hR'
  refine ⟨L, k, Nat.le_refl _, hkn, htl, fun _ _ => rfl, fun i hi hin => by omega, fun i hi => ?_, fun t w hw hF => ?_⟩
  · have : wspecAt E L i = .pure fun _ => undef := by unfold wspecAt; split; rfl; rw [List.getD, List.getElem?_eq_none (by omega)]; rfl
    rw [this]
    exact ⟨pure_stays _, trivial, fun _ _ => .inl rfl⟩
  · have hlen : R.length = ops.size - k := by rw [← hR]; simp
    rw [← hB t, ← hlen, wpOps_rest R k fun j => by rw [← hR]; simp]
    exact h t w hw hF
theorem WChain.last (htl : WTail ops E k) (hE : Nat.beq (E >>> k) 0 = true) (h : ∀ t w, GrowS T w0 w → WFacts E L (2 ^ k - 1) t w → wpList P ops Q R (B t) w) : WChain P ops Q T E w0 a0 k L B R :=
  WChain.tail htl (restE_all hE R k (Nat.le_refl _)) h
theorem WChain.done (h : ∀ t w, GrowS T w0 w → WFacts E L (2 ^ k - 1) t w → Q .normal (B t) w) : WChain P ops Q T E w0 a0 k L B [] := by
  rintro ⟨hR, hkn⟩
  have hk : ops.size ≤ k := by simpa using hR
  obtain rfl : k = ops.size := by omega
  exact WChain.tail (R := []) wtail_end rfl (fun t w hw hF => h t w hw hF) ⟨hR, hkn⟩ 
end
end Go.Proofs.Ytlnokohmmhmoaaa

