/-
  A region that draws its order, walked ONCE, in the order of its text: each operation is run in whatever later world, from what is known of those that it waits for.
  'Chain' is the walk: Chain.pure (a value that hangs on no world), Chain.skip (not wanted), Chain.grow (a call, a new block: a value with a fact that stands in every later world), Chain.done.
-/
import Derived.WalkKit
import Derived.RegionTactic
import Derived.Below
import Derived.Laws.OwnMore
namespace Go.Proofs.Ytlnokohmmhmoaaa
open Go.RowKit

/-- What an operation leaves: a value known from the parameters; or a value with a parameter of its own, and a fact on it. -/
inductive Spec (σ : Type) where
  | pure (X : (Nat → σ) → Value)
  | grow (V : σ → Value) (F : σ → World → Prop)

section
variable {σ : Type}
def Spec.val (s : Spec σ) (i : Nat) (t : Nat → σ) : Value :=
  match s with
  | .pure X => X t
  | .grow V _ => V (t i)
def Spec.fact (s : Spec σ) (i : Nat) (t : Nat → σ) (w : World) : Prop :=
  match s with
  | .pure _ => True
  | .grow _ F => F (t i) w
def specAt (L : List (Spec σ)) (i : Nat) : Spec σ := L.getD i (.pure fun _ => undef)
def upd (t : Nat → σ) (i : Nat) (s : σ) : Nat → σ := fun j => if j = i then s else t j
theorem upd_same (t : Nat → σ) (i : Nat) (s : σ) : upd t i s i = s := by simp [upd]
theorem upd_ne (t : Nat → σ) (i : Nat) (s : σ) {j : Nat} (h : j ≠ i) : upd t i s j = t j := by simp [upd, h]
end

def Grow (w w' : World) : Prop := Below w.heap.size w w'
theorem Grow.refl (w : World) : Grow w w := Below.refl _ _
theorem Grow.trans {a b c : World} (h : Grow a b) (k : Grow b c) : Grow a c := Below.trans h (Below.mono k h.size)
/-- No tactic looks into it. -/
def Hid' (p : Prop) : Prop := p
theorem Hid'.out {p : Prop} (h : Hid' p) : p := h
def Spec.stays {σ : Type} (s : Spec σ) : Prop :=
  match s with
  | .pure _ => True
  | .grow _ F => ∀ x w w', F x w → Grow w w' → F x w'
def NoEx : Exit → Act → World → Prop := fun _ _ _ => False

def dstOf (ops : Array Oper) (i : Nat) : Option Tmp := (ops[i]?).bind (·.dst)
def acts (ops : Array Oper) (a0 : Act) (f : Nat → Value) : Nat → Act
  | 0 => a0
  | k + 1 => (acts ops a0 f k).put (dstOf ops k) (f k)

section
variable {ops : Array Oper} {a0 : Act} {f g : Nat → Value}
theorem put_size (a : Act) (d : Option Tmp) (v : Value) : (a.put d v).tmps.size = a.tmps.size := by cases d <;> simp [Act.put]
theorem put_defers' (a : Act) (d : Option Tmp) (v : Value) : (a.put d v).defers = a.defers := by cases d <;> rfl
theorem put_get_same (a : Act) (d : Tmp) (v : Value) : (a.put (some d) v).tmps[d]? = if d < a.tmps.size then some v else none := by
  simp only [Act.put, Array.getElem?_setIfInBounds]
  simp
theorem put_get_ne (a : Act) (x : Option Tmp) (v : Value) {d : Tmp} (h : x ≠ some d) : (a.put x v).tmps[d]? = a.tmps[d]? := by
  cases x with
  | none => rfl
  | some e =>
    have hne : e ≠ d := fun he => h (he ▸ rfl)
    simp [Act.put, Array.getElem?_setIfInBounds_ne hne]
theorem acts_size : ∀ k, (acts ops a0 f k).tmps.size = a0.tmps.size
  | 0 => rfl
  | k + 1 => by rw [acts, put_size, acts_size k]
theorem acts_defers : ∀ k, (acts ops a0 f k).defers = a0.defers
  | 0 => rfl
  | k + 1 => by rw [acts, put_defers', acts_defers k]
theorem acts_none {d : Tmp} : ∀ k, (∀ m, m < k → dstOf ops m ≠ some d) → (acts ops a0 f k).tmps[d]? = a0.tmps[d]?
  | 0, _ => rfl
  | k + 1, h => by rw [acts, put_get_ne _ _ _ (h k (by omega)), acts_none k fun m hm => h m (by omega)]
theorem acts_some {d : Tmp} {m : Nat} (hm : dstOf ops m = some d) (hu : ∀ m', dstOf ops m' = some d → m' = m) : ∀ k, m < k → (acts ops a0 f k).tmps[d]? = if d < a0.tmps.size then some (f m) else none
  | 0, h => by omega
  | k + 1, h => by
    by_cases e : m = k
    · subst e
      rw [acts, hm, put_get_same, acts_size]
    · rw [acts, put_get_ne _ _ _ (fun hk => e (hu k hk).symm), acts_some hm hu k (by omega)]
theorem put_eq {a b : Act} {d : Option Tmp} {u v : Value} (hs : a.tmps.size = b.tmps.size) (h : b.put d u = b.put d v) : a.put d u = a.put d v := by
  cases d with
  | none => rfl
  | some d =>
    by_cases hd : d < b.tmps.size
    · have h1 := congrArg (fun x : Act => x.tmps[d]?) h
      simp only [put_get_same, hd, if_true] at h1
      injection h1 with h1
      rw [h1]
    · have e : ∀ v, a.put (some d) v = a := by
        intro v
        simp only [Act.put]
        rw [Array.setIfInBounds_eq_of_size_le (hs ▸ Nat.le_of_not_lt hd)]
      rw [e, e]
end

/-- The masks of what each operation waits for. -/
def maskAt (ops : Array Oper) (i : Nat) : Nat := (Region.before ops).getD i 0
def edgeMask (b : Array Nat) (o : Oper) : Nat := o.after.foldl (fun s e => if Region.binds .any e then s ||| 2 ^ e.on ||| b.getD e.on 0 else s) 0
def opsOk (ops : Array Oper) : Bool :=
  let b := Region.before ops
  Region.noSelect ops &&
  (List.range ops.size).all fun i => match ops[i]? with
    | none => false
    | some o =>
      (o.after.toList.all fun e => !Region.binds .any e || Nat.blt e.on i) &&
      Nat.beq (b.getD i 0) (edgeMask b o) &&
      (List.range ops.size).all fun m => Nat.beq m i || match dstOf ops m with
        | none => true
        | some d => (!(o.dst == some d)) && (!((o.looksAt ops).contains d) || Nat.testBit (b.getD i 0) m || Nat.testBit (b.getD m 0) i)

section
variable {P : Program} {ops : Array Oper} {Q : Exit → Act → World → Prop} {σ : Type} {w0 : World} {a0 : Act}

theorem edge_bit (b : Array Nat) (l : List Edge) (s j : Nat) (h : (l.foldl (fun s e => if Region.binds .any e then s ||| 2 ^ e.on ||| b.getD e.on 0 else s) s).testBit j = true) :
    s.testBit j = true ∨ ∃ e ∈ l, Region.binds .any e = true ∧ (e.on = j ∨ (b.getD e.on 0).testBit j = true) := by
  induction l generalizing s with
  | nil => exact .inl h
  | cons e l ih =>
    rw [List.foldl_cons] at h
    rcases ih _ h with h1 | ⟨e', he', hb⟩
    · by_cases hb : Region.binds .any e = true
      · rw [if_pos hb, Nat.testBit_or, Nat.testBit_or, Nat.testBit_two_pow] at h1
        simp only [Bool.or_eq_true, decide_eq_true_eq] at h1
        rcases h1 with (h1 | h1) | h1
        · exact .inl h1
        · exact .inr ⟨e, by simp, hb, .inl h1⟩
        · exact .inr ⟨e, by simp, hb, .inr h1⟩
      · rw [if_neg hb] at h1
        exact .inl h1
    · exact .inr ⟨e', by simp [he'], hb⟩
theorem edge_mono (b : Array Nat) (l : List Edge) (s j : Nat) (h : s.testBit j = true) : (l.foldl (fun s e => if Region.binds .any e then s ||| 2 ^ e.on ||| b.getD e.on 0 else s) s).testBit j = true := by
  induction l generalizing s with
  | nil => exact h
  | cons e l ih =>
    rw [List.foldl_cons]
    refine ih _ ?_
    split
    · simp [Nat.testBit_or, h]
    · exact h
theorem edge_in (b : Array Nat) (l : List Edge) (s j : Nat) (e : Edge) (he : e ∈ l) (hb : Region.binds .any e = true) (h : e.on = j ∨ (b.getD e.on 0).testBit j = true) : (l.foldl (fun s e => if Region.binds .any e then s ||| 2 ^ e.on ||| b.getD e.on 0 else s) s).testBit j = true := by
  induction l generalizing s with
  | nil => cases he
  | cons x l ih =>
    rw [List.foldl_cons]
    rcases List.mem_cons.1 he with rfl | he
    · refine edge_mono _ _ _ _ ?_
      rw [if_pos hb, Nat.testBit_or, Nat.testBit_or, Nat.testBit_two_pow]
      simp only [Bool.or_eq_true, decide_eq_true_eq]
      rcases h with h | h
      · exact .inl (.inr h)
      · exact .inr h
    · exact ih _ he

structure Good (ops : Array Oper) : Prop where
  sel : ∀ (j : Nat) (o : Oper) cs b, ops[j]? = some o → o.op ≠ .select cs b
  lt : ∀ (i : Nat) (o : Oper), ops[i]? = some o → ∀ e ∈ o.after, Region.binds .any e = true → e.on < i
  bit : ∀ (i : Nat) (o : Oper) (j : Nat), ops[i]? = some o → (maskAt ops i).testBit j = true → ∃ e ∈ o.after, Region.binds .any e = true ∧ (e.on = j ∨ (maskAt ops e.on).testBit j = true)
  edge : ∀ (i : Nat) (o : Oper) (j : Nat) (e : Edge), ops[i]? = some o → e ∈ o.after → Region.binds .any e = true → (e.on = j ∨ (maskAt ops e.on).testBit j = true) → (maskAt ops i).testBit j = true
  one : ∀ (i m : Nat) (d : Tmp), dstOf ops i = some d → dstOf ops m = some d → i = m
  looks : ∀ (i m : Nat) (o : Oper) (d : Tmp), ops[i]? = some o → m ≠ i → dstOf ops m = some d → d ∈ o.looksAt ops → (maskAt ops i).testBit m = true ∨ (maskAt ops m).testBit i = true

theorem dst_lt {i : Nat} {d : Tmp} (h : dstOf ops i = some d) : i < ops.size := by
  unfold dstOf at h
  cases ho : ops[i]? with
  | none => rw [ho] at h; cases h
  | some o => exact (Array.getElem?_eq_some_iff.1 ho).1

theorem good_of (h : opsOk ops = true) : Good ops := by
  simp only [opsOk, Bool.and_eq_true, List.all_eq_true, List.mem_range] at h
  obtain ⟨h1, h2⟩ := h
  have key : ∀ (i : Nat) (o : Oper), ops[i]? = some o → (∀ e ∈ o.after, Region.binds .any e = true → e.on < i) ∧ maskAt ops i = edgeMask (Region.before ops) o ∧
      ∀ m, m < ops.size → m ≠ i → ∀ d, dstOf ops m = some d → o.dst ≠ some d ∧ (d ∈ o.looksAt ops → (maskAt ops i).testBit m = true ∨ (maskAt ops m).testBit i = true) := by
    intro i o ho
    have h3 := h2 i (Array.getElem?_eq_some_iff.1 ho).1
    simp only [ho, Bool.and_eq_true, List.all_eq_true, List.mem_range] at h3
    obtain ⟨⟨h4, h5⟩, h6⟩ := h3
    refine ⟨fun e he hb => ?_, Nat.eq_of_beq_eq_true h5, fun m hm hne d hd => ?_⟩
    · have := h4 e (by simpa using he)
      simp only [hb, Bool.not_true, Bool.false_or] at this
      exact Nat.le_of_ble_eq_true this
    · have := h6 m hm
      simp only [hd, Bool.or_eq_true, Bool.and_eq_true, Bool.not_eq_true', beq_eq_false_iff_ne, List.contains_eq_mem, decide_eq_false_iff_not] at this
      rcases this with this | ⟨h7, h8⟩
      · exact absurd (Nat.eq_of_beq_eq_true this) hne
      · refine ⟨h7, fun hd => ?_⟩
        rcases h8 with (h8 | h8) | h8
        · exact absurd hd h8
        · exact .inl h8
        · exact .inr h8
  refine ⟨fun j o cs b => Region.noSelect_spec h1 j o cs b, fun i o ho => (key i o ho).1, fun i o j ho hb => ?_, fun i o j e ho he hb h => ?_, fun i m d hi hm => ?_, fun i m o d ho hne hd hl => ((key i o ho).2.2 m (dst_lt hd) hne d hd).2 hl⟩
  · rw [(key i o ho).2.1, edgeMask, ← Array.foldl_toList] at hb
    rcases edge_bit _ _ _ _ hb with h | ⟨e, he, h⟩
    · simp at h
    · exact ⟨e, by simpa using he, h⟩
  · rw [(key i o ho).2.1, edgeMask, ← Array.foldl_toList]
    exact edge_in _ _ _ _ e (by simpa using he) hb h
  · by_cases e : m = i
    · exact e.symm
    · have hlt := dst_lt hi
      cases ho : ops[i]? with
      | none => rw [dstOf, ho] at hi; cases hi
      | some o =>
        have := ((key i o ho).2.2 m (dst_lt hm) e d hm).1
        rw [dstOf, ho] at hi
        exact absurd hi this

theorem Good.sub (hg : Good ops) : ∀ (i : Nat), i < ops.size → ∀ j, (maskAt ops i).testBit j = true → j < i ∧ ∀ k, (maskAt ops j).testBit k = true → (maskAt ops i).testBit k = true := by
  intro i
  induction i using Nat.strongRecOn with
  | _ i ih =>
    intro hi j hj
    obtain ⟨o, ho⟩ : ∃ o, ops[i]? = some o := ⟨_, Array.getElem?_eq_getElem hi⟩
    obtain ⟨e, he, hb, h⟩ := hg.bit i o j ho hj
    have hlt := hg.lt i o ho e he hb
    rcases h with h | h
    · subst h
      exact ⟨hlt, fun k hk => hg.edge i o k e ho he hb (.inr hk)⟩
    · obtain ⟨h1, h2⟩ := ih e.on hlt (by omega) j h
      exact ⟨by omega, fun k hk => hg.edge i o k e ho he hb (.inr (h2 k hk))⟩

/-- What is known of those that are in the mask. -/
def Facts (L : List (Spec σ)) (m : Nat) (t : Nat → σ) (w : World) : Prop := ∀ j, m.testBit j = true → (specAt L j).fact j t w
theorem Facts.get {L : List (Spec σ)} {m : Nat} {t : Nat → σ} {w : World} (h : Facts L m t w) (j : Nat) {V : σ → Value} {F : σ → World → Prop} (hL : L[j]? = some (.grow V F)) (hm : m.testBit j = true) : F (t j) w := by
  have := h j hm
  rw [specAt, List.getD, hL] at this
  exact this

def vals (L : List (Spec σ)) (t : Nat → σ) : Nat → Value := fun i => (specAt L i).val i t

/-- What is to be shown of operation i. -/
def Ob (P : Program) (ops : Array Oper) (w0 : World) (a0 : Act) (L : List (Spec σ)) (i : Nat) : Prop :=
  ∀ o, ops[i]? = some o →
  match specAt L i with
  | .pure X => ∀ t w, Grow w0 w → Facts L (maskAt ops i) t w →
      (Region.wanted o (yielded ops (acts ops a0 (vals L t) i).tmps) = true ∧ ((execOp (acts ops a0 (vals L t) i).eval o).run P w = .ok (.value (X t)) w ∨ ((execOp (acts ops a0 (vals L t) i).eval o).run P w = .ok .skip w ∧ X t = undef))) ∨
      (Region.wanted o (yielded ops (acts ops a0 (vals L t) i).tmps) = false ∧ X t = undef)
  | .grow V F => ∀ t w, Grow w0 w → Facts L (maskAt ops i) t w →
      Region.wanted o (yielded ops (acts ops a0 (vals L t) i).tmps) = true ∧ ∀ K : Act → World → Prop, (∀ s w', Grow w w' → F s w' → K ((acts ops a0 (vals L t) i).put o.dst (V s)) w') → Oper.wp P o (acts ops a0 (vals L t) i) w K NoEx

/-- Two frames that agree where an operation looks. -/
theorem same_exec {o : Oper} (hs : ∀ cs b, o.op ≠ .select cs b) {a b : Act} (h : ∀ d ∈ o.looksAt ops, a.tmps[d]? = b.tmps[d]?) :
    execOp a.eval o = execOp b.eval o ∧ Region.wanted o (yielded ops a.tmps) = Region.wanted o (yielded ops b.tmps) := by
  refine ⟨execOp_congr o hs fun x hx => ?_, ?_⟩
  · cases x with
    | tmp d =>
      have := h d (List.mem_append_left _ (List.mem_filterMap.2 ⟨.tmp d, by simpa using hx, rfl⟩))
      simp only [Act.eval, Array.getD_eq_getD_getElem?, this]
    | _ => rfl
  · unfold Region.wanted
    cases hg : o.guard with
    | none => rfl
    | some gw =>
      obtain ⟨g, want⟩ := gw
      have hy : yielded ops a.tmps g = yielded ops b.tmps g := by
        unfold yielded
        cases ht : (ops[g]?).bind (·.dst) with
        | none => rfl
        | some d =>
          have := h d (by simp [Oper.looksAt, hg, ht])
          simp only [Option.bind_some, this]
      simp only [hy]

theorem acts_look (hg : Good ops) {f g : Nat → Value} {i : Nat} {o : Oper} (ho : ops[i]? = some o) (h : ∀ j, (maskAt ops i).testBit j = true → f j = g j) :
    ∀ d ∈ o.looksAt ops, (acts ops a0 f i).tmps[d]? = (acts ops a0 g i).tmps[d]? := by
  intro d hd
  have hi := (Array.getElem?_eq_some_iff.1 ho).1
  by_cases hm : ∃ m, m < i ∧ dstOf ops m = some d
  · obtain ⟨m, hlt, hm⟩ := hm
    rw [acts_some hm (fun m' h' => hg.one _ _ _ h' hm) i hlt, acts_some hm (fun m' h' => hg.one _ _ _ h' hm) i hlt]
    rcases hg.looks i m o d ho (by omega) hm hd with h1 | h1
    · rw [h m h1]
    · have := (hg.sub m (by omega) i h1).1
      omega
  · rw [acts_none i fun m hlt he => hm ⟨m, hlt, he⟩, acts_none i fun m hlt he => hm ⟨m, hlt, he⟩]

theorem vals_loc (hg : Good ops) {L : List (Spec σ)} {kk : Nat} (hkk : kk ≤ ops.size) (hob : ∀ i, i < kk → Ob P ops w0 a0 L i) {t t' : Nat → σ} {w : World} (hw : Grow w0 w) :
    ∀ m, m < kk → Facts L (maskAt ops m) t w → (∀ j, (maskAt ops m).testBit j = true → t j = t' j) → t m = t' m → vals L t m = vals L t' m := by
  intro m
  induction m using Nat.strongRecOn with
  | _ m ih =>
    intro hmk hF ht htm
    have hm : m < ops.size := by omega
    obtain ⟨o, ho⟩ : ∃ o, ops[m]? = some o := ⟨_, Array.getElem?_eq_getElem hm⟩
    have h1 := hob m hmk o ho
    cases hs : specAt L m with
    | grow V F => simp only [vals, hs, Spec.val, htm]
    | pure X =>
      rw [hs] at h1
      simp only at h1
      have hF' : Facts L (maskAt ops m) t' w := by
        intro j hj
        have := hF j hj
        cases hsj : specAt L j with
        | pure _ => trivial
        | grow V F => rw [hsj] at this; simp only [Spec.fact] at this ⊢; rw [← ht j hj]; exact this
      have hv : ∀ j, (maskAt ops m).testBit j = true → vals L t j = vals L t' j := by
        intro j hj
        obtain ⟨hlt, hsub⟩ := hg.sub m hm j hj
        exact ih j hlt (by omega) (fun k hk => hF k (hsub k hk)) (fun k hk => ht k (hsub k hk)) (ht j hj)
      obtain ⟨he, hwt⟩ := same_exec (ops := ops) (fun cs b => hg.sel m o cs b ho) (acts_look (a0 := a0) hg ho hv)
      have a1 := h1 t w hw hF
      have a2 := h1 t' w hw hF'
      rw [← he, ← hwt] at a2
      show (specAt L m).val m t = (specAt L m).val m t'
      rw [hs]
      show X t = X t'
      rcases a1 with ⟨b1, c1⟩ | ⟨b1, c1⟩ <;> rcases a2 with ⟨b2, c2⟩ | ⟨b2, c2⟩
      · rcases c1 with c1 | ⟨c1, d1⟩ <;> rcases c2 with c2 | ⟨c2, d2⟩
        · rw [c1] at c2; injection c2 with c2; injection c2
        · rw [c1] at c2; injection c2 with c2; cases c2
        · rw [c1] at c2; injection c2 with c2; cases c2
        · rw [d1, d2]
      · rw [b1] at b2; cases b2
      · rw [b1] at b2; cases b2
      · rw [c1, c2]

/-- How far a run has come. -/
structure At (ops : Array Oper) (a0 : Act) (w0 : World) (L : List (Spec σ)) (listed : Array Bool) (t : Nat → σ) (a : Act) (w : World) : Prop where
  size : listed.size = ops.size
  grow : Grow w0 w
  down : ∀ i, i < ops.size → listed.getD i false = true → ∀ j, (maskAt ops i).testBit j = true → listed.getD j false = true
  fact : ∀ i, listed.getD i false = true → (specAt L i).fact i t w
  defers : a.defers = a0.defers
  tsize : a.tmps.size = a0.tmps.size
  some_ : ∀ d m, listed.getD m false = true → dstOf ops m = some d → a.tmps[d]? = if d < a0.tmps.size then some (vals L t m) else none
  none_ : ∀ d, (∀ m, listed.getD m false = true → dstOf ops m ≠ some d) → a.tmps[d]? = a0.tmps[d]?

theorem getD_flip {listed : Array Bool} {i : Nat} (hi : i < listed.size) : listed.getD i true = listed.getD i false := by
  simp [hi]
theorem getD_set_self {listed : Array Bool} {i : Nat} (hi : i < listed.size) : (listed.setIfInBounds i true).getD i false = true := by
  simp [hi]
theorem getD_oob {listed : Array Bool} {i : Nat} (h : listed.getD i false = true) : i < listed.size := by
  rcases Nat.lt_or_ge i listed.size with h' | h'
  · exact h'
  · simp [h'] at h

theorem At.look (hg : Good ops) {L : List (Spec σ)} {listed : Array Bool} {t : Nat → σ} {a : Act} {w : World} (h : At ops a0 w0 L listed t a w) {i : Nat} {o : Oper} (ho : ops[i]? = some o)
    (hun : listed.getD i false = false) (hall : ∀ j, (maskAt ops i).testBit j = true → listed.getD j false = true) :
    ∀ d ∈ o.looksAt ops, a.tmps[d]? = (acts ops a0 (vals L t) i).tmps[d]? := by
  intro d hd
  have hi := (Array.getElem?_eq_some_iff.1 ho).1
  by_cases hm : ∃ m, dstOf ops m = some d ∧ m ≠ i
  · obtain ⟨m, hm, hne⟩ := hm
    have hml := dst_lt hm
    rcases hg.looks i m o d ho hne hm hd with h1 | h1
    · have hlt := (hg.sub i hi m h1).1
      rw [h.some_ d m (hall m h1) hm, acts_some hm (fun m' h' => hg.one _ _ _ h' hm) i hlt]
    · have hlt := (hg.sub m hml i h1).1
      have hum : listed.getD m false = false := by
        cases hx : listed.getD m false with
        | false => rfl
        | true => have := h.down m hml hx i h1; rw [hun] at this; cases this
      rw [h.none_ d (fun m' hl he => by have := hg.one _ _ _ he hm; subst this; rw [hum] at hl; cases hl), acts_none i (fun m' hl he => by have := hg.one _ _ _ he hm; omega)]
  · rw [h.none_ d (fun m' hl he => hm ⟨m', he, fun e => by subst e; rw [hun] at hl; cases hl⟩), acts_none i (fun m' hl he => hm ⟨m', he, by omega⟩)]

theorem vals_upd (hg : Good ops) {L : List (Spec σ)} {kk : Nat} (hkk : kk ≤ ops.size) (hob : ∀ i, i < kk → Ob P ops w0 a0 L i) {listed : Array Bool} {t : Nat → σ} {a : Act} {w : World} (h : At ops a0 w0 L listed t a w) {i : Nat} (hun : listed.getD i false = false) (hlk : ∀ i, listed.getD i false = true → i < kk) (s : σ) :
    ∀ m, listed.getD m false = true → vals L (upd t i s) m = vals L t m := by
  intro m hl
  have hm : m < ops.size := by have := getD_oob hl; rw [h.size] at this; exact this
  have hne : m ≠ i := fun e => by subst e; rw [hun] at hl; cases hl
  refine (vals_loc hg hkk hob h.grow m (hlk m hl) (fun j hj => h.fact j (h.down m hm hl j hj)) (fun j hj => ?_) ?_).symm
  · have hjl := h.down m hm hl j hj
    rw [upd_ne]
    intro e
    subst e
    rw [hun] at hjl
    cases hjl
  · rw [upd_ne _ _ _ hne]

/-- One operation more. -/
theorem At.next (hg : Good ops) {L : List (Spec σ)} {kk : Nat} (hkk : kk ≤ ops.size) (hob : ∀ i, i < kk → Ob P ops w0 a0 L i) (hst : ∀ i, (specAt L i).stays) {listed : Array Bool} {t : Nat → σ} {a : Act} {w w' : World} (h : At ops a0 w0 L listed t a w) {i : Nat} (hi : i < ops.size)
    (hun : listed.getD i false = false) (hall : ∀ j, (maskAt ops i).testBit j = true → listed.getD j false = true) (hlk : ∀ i, listed.getD i false = true → i < kk) (s : σ) (hgr : Grow w w') (hf : (specAt L i).fact i (upd t i s) w') {v : Value} (hv : v = vals L (upd t i s) i) :
    At ops a0 w0 L (listed.setIfInBounds i true) (upd t i s) (a.put (dstOf ops i) v) w' := by
  have hset : ∀ m, (listed.setIfInBounds i true).getD m false = true → m = i ∨ listed.getD m false = true := by
    intro m hm
    by_cases e : m = i
    · exact .inl e
    · rw [getD_set_ne false (Ne.symm e)] at hm; exact .inr hm
  have hvu := vals_upd hg hkk hob h hun hlk s
  refine ⟨by rw [Array.size_setIfInBounds]; exact h.size, h.grow.trans hgr, fun m hm hl0 j hj => ?_, fun m hl0 => ?_, by rw [put_defers', h.defers], by rw [put_size, h.tsize], fun d m hl0 hd => ?_, fun d hd => ?_⟩
  · rcases hset m hl0 with rfl | hl
    · exact getD_set_true (hall j hj)
    · exact getD_set_true (h.down m hm hl j hj)
  · rcases hset m hl0 with rfl | hl
    · exact hf
    · have hne : m ≠ i := fun e => by subst e; rw [hun] at hl; cases hl
      have h1 := h.fact m hl
      have h2 := hst m
      cases hs : specAt L m with
      | pure _ => trivial
      | grow V F =>
        rw [hs] at h1 h2
        simp only [Spec.fact] at h1 h2 ⊢
        rw [upd_ne _ _ _ hne]
        exact h2 _ _ _ h1 hgr
  · rcases hset m hl0 with rfl | hl
    · rw [hd, put_get_same, h.tsize, hv]
    · have hne : m ≠ i := fun e => by subst e; rw [hun] at hl; cases hl
      rw [put_get_ne _ _ _ (fun he => hne (hg.one _ _ _ hd he)), h.some_ d m hl hd, hvu m hl]
  · rw [put_get_ne _ _ _ (hd i (getD_set_self (by rw [h.size]; exact hi))), h.none_ d fun m hl => hd m (getD_set_true hl)]

def left_ (ops : Array Oper) (listed : Array Bool) : Nat := ((List.range ops.size).filter fun i => !listed.getD i false).length
theorem left_lt {listed : Array Bool} {i : Nat} (hs : listed.size = ops.size) (hi : i < ops.size) (hun : listed.getD i false = false) : left_ ops (listed.setIfInBounds i true) < left_ ops listed := by
  unfold left_
  have e : (List.range ops.size).filter (fun j => !(listed.setIfInBounds i true).getD j false) = ((List.range ops.size).filter fun j => !listed.getD j false).filter (fun j => decide (j ≠ i)) := by
    rw [List.filter_filter]
    refine List.filter_congr fun j _ => ?_
    by_cases hj : j = i
    · subst hj
      rw [getD_set_self (by rw [hs]; exact hi)]
      simp
    · rw [getD_set_ne false (Ne.symm hj)]
      simp [hj]
  rw [e, List.length_filter_lt_length_iff_exists]
  exact ⟨i, by rw [List.mem_filter]; simp only [List.mem_range, hi, hun, Bool.not_false, and_self], by simp⟩

theorem wpOp_of {i : Nat} {o : Oper} (ho : ops[i]? = some o) {a b : Act} {w : World} {K : Act → World → Prop} {R : Value → World → Prop} (hs : a.tmps.size = b.tmps.size)
    (hw : Region.wanted o (yielded ops a.tmps) = true) (he : execOp a.eval o = execOp b.eval o)
    (h : Oper.wp P o b w (fun a' w' => ∃ v, a' = b.put o.dst v ∧ R v w') NoEx) (hK : ∀ v w', R v w' → K (a.put o.dst v) w') : wpOp P ops Q i K a w := by
  have hb : ∀ u w', (∃ v, b.put o.dst u = b.put o.dst v ∧ R v w') → K (a.put o.dst u) w' := by
    rintro u w' ⟨v, h1, h2⟩
    rw [put_eq hs h1]
    exact hK v w' h2
  unfold wpOp
  rw [ho]
  simp only [hw, if_true]
  refine .inl ?_
  unfold Oper.wp at *
  rw [he]
  generalize (execOp b.eval o).run P w = r at *
  cases r with
  | ok n w' =>
    cases n <;> simp only [Oper.upon] at h ⊢
    case value u => exact hb u w' h
    case skip => exact hb _ w' h
    case defer d =>
      obtain ⟨v, h1, _⟩ := h
      have := congrArg Act.defers h1
      rw [put_defers', put_defers'] at this
      simp at this
    case enter f args =>
      refine Calls.mono h fun e w'' hx => ?_
      cases e with
      | returned u => exact hb u w'' hx
      | panicked c => exact hx.elim
      | outgrown => obtain ⟨_, _, hx⟩ := hx; exact hx.elim
    case row row args => exact Rows.mono h fun u w'' hx => hb u w'' hx
  | halt x w' =>
    cases x <;> simp only [Oper.upon] at h ⊢
    case panic u => exact (h : False).elim

/-- From operation k on each waits for all ahead of it. -/
def tailOk (ops : Array Oper) (k : Nat) : Bool := (List.range ops.size).all fun i => Nat.blt i k || Nat.beq (maskAt ops i) (2 ^ i - 1)
def Tail (ops : Array Oper) (k : Nat) : Prop := ∀ i, k ≤ i → i < ops.size → ∀ j, j < i → (maskAt ops i).testBit j = true
theorem tail_of {k : Nat} (h : tailOk ops k = true) : Tail ops k := by
  intro i hk hi j hj
  simp only [tailOk, List.all_eq_true, List.mem_range] at h
  have h1 := h i hi
  rw [Bool.or_eq_true] at h1
  rcases h1 with h1 | h1
  · have := Nat.le_of_ble_eq_true h1
    omega
  · rw [Nat.eq_of_beq_eq_true h1, Nat.testBit_two_pow_sub_one]
    simp [hj]
theorem tail_end : Tail ops ops.size := fun i hk hi => by omega

theorem seq_any (hg : Good ops) (Q : Exit → Act → World → Prop) : ∀ (m k : Nat), k + m = ops.size → Tail ops k → ∀ (fuel : Nat) (listed : Array Bool) (a : Act) (w : World), listed.size = ops.size → m ≤ fuel →
    (∀ i, i < ops.size → (listed.getD i false = true ↔ i < k)) → wpOps P ops Q (List.range' k m) a w → wpAny P .any ops Q fuel listed a w := by
  intro m
  induction m with
  | zero =>
    intro k hk _ fuel listed a w hs _ hl h
    refine wpAny_done ?_ h fuel
    refine List.eq_nil_iff_forall_not_mem.2 fun i hi => ?_
    obtain ⟨h2, o, ho, -⟩ := mem_ready.1 hi
    have hlt := (Array.getElem?_eq_some_iff.1 ho).1
    rw [getD_flip (by omega), (hl i hlt).2 (by omega)] at h2
    cases h2
  | succ m ih =>
    intro k hk ht fuel listed a w hs hf hl h
    obtain ⟨fuel, rfl⟩ : ∃ x, fuel = x + 1 := ⟨fuel - 1, by omega⟩
    have hkn : k < ops.size := by omega
    obtain ⟨ok, hok⟩ : ∃ o, ops[k]? = some o := ⟨_, Array.getElem?_eq_getElem hkn⟩
    have hunk : listed.getD k false = false := by
      cases hx : listed.getD k false with
      | false => rfl
      | true => have := (hl k hkn).1 hx; omega
    have only : ∀ i, i ∈ Region.ready .any ops listed → i = k := by
      intro i hi
      obtain ⟨h2, o, ho, he⟩ := mem_ready.1 hi
      have hlt := (Array.getElem?_eq_some_iff.1 ho).1
      rw [getD_flip (by omega)] at h2
      rcases Nat.lt_trichotomy i k with h3 | h3 | h3
      · rw [(hl i hlt).2 h3] at h2; cases h2
      · exact h3
      · obtain ⟨e, hem, hb, hx⟩ := hg.bit i o k ho (ht i (by omega) hlt k h3)
        have hel := he e hem hb
        have hei := hg.lt i o ho e hem hb
        have h4 := (hl e.on (by omega)).1 hel
        rcases hx with rfl | hx
        · omega
        · have := (hg.sub e.on (by omega) k hx).1
          omega
    refine ⟨fun hr => ?_, fun i hi => ?_⟩
    · have : k ∈ Region.ready .any ops listed := mem_ready.2 ⟨by rw [getD_flip (by omega)]; exact hunk, ok, hok, fun e he hb => (hl e.on (by have := hg.lt k ok hok e he hb; omega)).2 (hg.lt k ok hok e he hb)⟩
      rw [hr] at this
      cases this
    · obtain rfl := only i hi
      rw [List.range'_succ, wpOps_cons] at h
      refine wpOp_mono (fun a' w' h' => ih (i + 1) (by omega) (fun x hx => ht x (by omega)) fuel _ a' w' (by rw [Array.size_setIfInBounds]; exact hs) (by omega) (fun x hx => ?_) h') h
      by_cases e : x = i
      · subst e
        rw [getD_set_self (by omega)]
        simp
      · rw [getD_set_ne false (Ne.symm e), hl x hx]
        omega

theorem facts_any (hg : Good ops) {L : List (Spec σ)} {k : Nat} (hk : k ≤ ops.size) (ht : Tail ops k) (hob : ∀ i, i < k → Ob P ops w0 a0 L i) (hst : ∀ i, (specAt L i).stays)
    (hfin : ∀ t w, Grow w0 w → Facts L (2 ^ k - 1) t w → wpOps P ops Q (List.range' k (ops.size - k)) (acts ops a0 (vals L t) k) w) :
    ∀ (fuel : Nat) (listed : Array Bool) (t : Nat → σ) (a : Act) (w : World), left_ ops listed ≤ fuel → (∀ i, listed.getD i false = true → i < k) → At ops a0 w0 L listed t a w → wpAny P .any ops Q fuel listed a w := by
  have fin : ∀ (fuel : Nat) (listed : Array Bool) (t : Nat → σ) (a : Act) (w : World), left_ ops listed ≤ fuel → (∀ i, listed.getD i false = true → i < k) → At ops a0 w0 L listed t a w → (∀ i, i < k → listed.getD i false = true) → wpAny P .any ops Q fuel listed a w := by
    intro fuel listed t a w hfu hlk h hl
    have e : a = acts ops a0 (vals L t) k := by
      have e1 : a.tmps = (acts ops a0 (vals L t) k).tmps := by
        refine Array.ext_getElem? fun d => ?_
        by_cases hm : ∃ m, m < k ∧ dstOf ops m = some d
        · obtain ⟨m, hmk, hm⟩ := hm
          rw [h.some_ d m (hl m hmk) hm, acts_some hm (fun m' h' => hg.one _ _ _ h' hm) _ hmk]
        · rw [h.none_ d (fun m hml he => hm ⟨m, hlk m hml, he⟩), acts_none _ (fun m hml he => hm ⟨m, hml, he⟩)]
      have e2 : a.defers = (acts ops a0 (vals L t) k).defers := by rw [h.defers, acts_defers]
      cases a
      generalize acts ops a0 (vals L t) k = b at *
      cases b
      simp only at e1 e2
      subst e1 e2
      rfl
    rw [e]
    refine seq_any hg Q (ops.size - k) k (by omega) ht fuel listed _ w h.size ?_ (fun i _ => ⟨hlk i, hl i⟩) (hfin t w h.grow fun j hj => h.fact j (hl j ?_))
    · refine Nat.le_trans ?_ hfu
      unfold left_
      have hsub : List.Sublist (List.range' k (ops.size - k)) ((List.range ops.size).filter fun i => !listed.getD i false) := by
        have e1 : List.range ops.size = List.range k ++ List.range' k (ops.size - k) := by
          have e3 := List.range'_append_1 (s := 0) (m := k) (n := ops.size - k)
          rw [Nat.zero_add, show k + (ops.size - k) = ops.size by omega] at e3
          rw [List.range_eq_range', List.range_eq_range', e3]
        rw [e1, List.filter_append]
        have e2 : (List.range' k (ops.size - k)).filter (fun i => !listed.getD i false) = List.range' k (ops.size - k) := by
          refine List.filter_eq_self.2 fun i hi => ?_
          have hik := (List.mem_range'_1.1 hi).1
          cases hx : listed.getD i false with
          | false => rfl
          | true => have := hlk i hx; omega
        rw [e2]
        exact List.sublist_append_right _ _
      have := hsub.length_le
      rwa [List.length_range'] at this
    · rw [Nat.testBit_two_pow_sub_one] at hj
      simpa using hj
  have nil : ∀ (listed : Array Bool), listed.size = ops.size → Region.ready .any ops listed = [] → ∀ i, i < ops.size → listed.getD i false = true := by
    intro listed hs hr i
    induction i using Nat.strongRecOn with
    | _ i ih =>
      intro hi
      obtain ⟨o, ho⟩ : ∃ o, ops[i]? = some o := ⟨_, Array.getElem?_eq_getElem hi⟩
      cases hx : listed.getD i false with
      | true => rfl
      | false =>
        have : i ∈ Region.ready .any ops listed := mem_ready.2 ⟨by rw [getD_flip (by omega)]; exact hx, o, ho, fun e he hb => ih e.on (hg.lt i o ho e he hb) (by have := hg.lt i o ho e he hb; omega)⟩
        rw [hr] at this
        cases this
  intro fuel
  induction fuel with
  | zero =>
    intro listed t a w hl hlk h
    have hall : ∀ i, i < k → listed.getD i false = true := by
      intro i hi
      cases hx : listed.getD i false with
      | true => rfl
      | false =>
        have := left_lt h.size (show i < ops.size by omega) hx
        omega
    exact fin 0 listed t a w hl hlk h hall
  | succ fuel ih =>
    intro listed t a w hl hlk h
    by_cases hdone : ∀ i, i < k → listed.getD i false = true
    · exact fin _ listed t a w hl hlk h hdone
    refine ⟨fun hr => absurd (fun i hi => nil listed h.size hr i (by omega)) hdone, fun i hi => ?_⟩
    obtain ⟨hun, o, ho, hedge⟩ := mem_ready.1 hi
    have hlt := (Array.getElem?_eq_some_iff.1 ho).1
    rw [getD_flip (by rw [h.size]; exact hlt)] at hun
    have hall : ∀ j, (maskAt ops i).testBit j = true → listed.getD j false = true := by
      intro j hj
      obtain ⟨e, he, hb, hx⟩ := hg.bit i o j ho hj
      have hel := hedge e he hb
      rcases hx with rfl | hx
      · exact hel
      · exact h.down e.on (by have := hg.lt i o ho e he hb; omega) hel j hx
    have hik : i < k := by
      rcases Nat.lt_or_ge i k with h1 | h1
      · exact h1
      · exact absurd (fun j hj => hall j (ht i h1 hlt j (by omega))) hdone
    have hlk' : ∀ m, (listed.setIfInBounds i true).getD m false = true → m < k := by
      intro m hm
      by_cases e : m = i
      · omega
      · rw [getD_set_ne false (Ne.symm e)] at hm
        exact hlk m hm
    have hF : Facts L (maskAt ops i) t w := fun j hj => h.fact j (hall j hj)
    obtain ⟨he, hwt⟩ := same_exec (ops := ops) (fun cs b => hg.sel i o cs b ho) (h.look hg ho hun hall)
    have hdo : dstOf ops i = o.dst := by simp [dstOf, ho]
    have hlf := left_lt h.size hlt hun
    have hob1 := hob i hik o ho
    cases hs : specAt L i with
    | pure X =>
      rw [hs] at hob1
      simp only at hob1
      have go : ∀ v, v = X t → wpAny P .any ops Q fuel (listed.setIfInBounds i true) (a.put o.dst v) w := by
        intro v hv
        have hu : upd t i (t i) = t := by funext j; by_cases e : j = i <;> simp [upd, e]
        have := h.next hg hk hob hst hlt hun hall hlk (t i) (Grow.refl w) (by rw [hs]; trivial) (v := v) (by rw [hu, hv]; show X t = (specAt L i).val i t; rw [hs]; rfl)
        rw [hdo] at this
        exact ih _ _ _ _ (by omega) hlk' this
      unfold wpOp
      rw [ho]
      rcases hob1 t w h.grow hF with ⟨h1, h2⟩ | ⟨h1, h2⟩
      · simp only [hwt.trans h1, if_true]
        refine .inl ?_
        unfold Oper.wp
        rw [he]
        rcases h2 with h2 | ⟨h2, h3⟩
        · rw [h2]; exact go _ rfl
        · rw [h2]; exact go _ h3.symm
      · simp only [hwt.trans h1, Bool.false_eq_true, if_false]
        exact go _ h2.symm
    | grow V F =>
      rw [hs] at hob1
      simp only at hob1
      obtain ⟨h1, h2⟩ := hob1 t w h.grow hF
      refine wpOp_of ho (b := acts ops a0 (vals L t) i) (R := fun v w' => ∃ s, v = V s ∧ Grow w w' ∧ F s w') (by rw [h.tsize, acts_size]) (by rw [hwt]; exact h1) he
        (h2 _ fun s w' hgr hf => ⟨_, rfl, s, rfl, hgr, hf⟩) ?_
      rintro v w' ⟨s, rfl, hgr, hf⟩
      have := h.next hg hk hob hst hlt hun hall hlk s hgr (by rw [hs]; simp only [Spec.fact, upd_same]; exact hf) (v := V s) (by show V s = (specAt L i).val i (upd t i s); rw [hs]; simp only [Spec.val, upd_same])
      rw [hdo] at this
      exact ih _ _ _ _ (by omega) hlk' this

/-- The walk, before operation k. -/
def Chain (P : Program) (ops : Array Oper) (Q : Exit → Act → World → Prop) (w0 : World) (a0 : Act) (k : Nat) (L : List (Spec σ)) (B : (Nat → σ) → Act) (R : List Oper) : Prop :=
  (ops.toList.drop k = R ∧ k ≤ ops.size) → L.length = k → (∀ t, B t = acts ops a0 (vals L t) k) →
    ∃ (M : List (Spec σ)) (n : Nat), k ≤ n ∧ n ≤ ops.size ∧ Tail ops n ∧ (∀ i, i < k → specAt M i = specAt L i) ∧ (∀ i, k ≤ i → i < n → Ob P ops w0 a0 M i) ∧
      (∀ i, k ≤ i → (specAt M i).stays) ∧
      ∀ t w, Grow w0 w → Facts M (2 ^ n - 1) t w → wpOps P ops Q (List.range' n (ops.size - n)) (acts ops a0 (vals M t) n) w

theorem acts_congr {f g : Nat → Value} : ∀ k, (∀ i, i < k → f i = g i) → acts ops a0 f k = acts ops a0 g k
  | 0, _ => rfl
  | k + 1, h => by rw [acts, acts, acts_congr k fun i hi => h i (by omega), h k (by omega)]
theorem vals_congr {L M : List (Spec σ)} {k : Nat} (h : ∀ i, i < k → specAt M i = specAt L i) (t : Nat → σ) : ∀ i, i < k → vals M t i = vals L t i := fun i hi => by unfold vals; rw [h i hi]
theorem specAt_snoc (L : List (Spec σ)) (s : Spec σ) : specAt (L ++ [s]) L.length = s := by simp [specAt]
theorem specAt_app (L : List (Spec σ)) (s : Spec σ) {i : Nat} (h : i < L.length) : specAt (L ++ [s]) i = specAt L i := by simp [specAt, List.getElem?_append_left h]

theorem Chain.start {id : Nat} {Q : Exit → Act → World → Prop} {a : Act} {w : World} (σ : Type) [Inhabited σ] {R : List Oper} (hm : P.follows .mixedOrders = true) (hok : opsOk R.toArray = true)
    (h0 : Good R.toArray → Chain (σ := σ) P R.toArray Q w a 0 [] (fun _ => a) R) : (Code.region id R.toArray true).wp P Q a w := by
  generalize hops : R.toArray = ops at *
  refine wp_region_any hm ?_
  have hg := good_of hok
  obtain ⟨M, n, -, hnn, hT, -, h2, h3, h4⟩ := h0 hg ⟨by rw [← hops]; rfl, Nat.zero_le _⟩ rfl (fun _ => rfl)
  have hn : ∀ i, (Array.replicate ops.size false).getD i false = false := by
    intro i
    by_cases hi : i < ops.size <;> simp [hi]
  refine facts_any hg hnn hT (fun i hi => h2 i (Nat.zero_le _) hi) (fun i => h3 i (Nat.zero_le _)) h4 ops.size _ (fun _ => default) a _ ?_ (fun i hl => by (rw [hn] at hl; cases hl)) ?_
  · unfold left_
    refine Nat.le_trans (List.length_filter_le _ _) ?_
    simp
  · refine ⟨by simp, ⟨rfl, rfl, rfl, Nat.le_refl _, fun _ _ => rfl⟩, fun i _ hl => by (rw [hn] at hl; cases hl), fun i hl => by (rw [hn] at hl; cases hl), rfl, rfl, fun d m hl => by (rw [hn] at hl; cases hl), fun d _ => rfl⟩

variable {k : Nat} {L : List (Spec σ)} {B : (Nat → σ) → Act} {o : Oper} {R : List Oper}

theorem Chain.step (hok : Good ops) (s : Spec σ) (hst : s.stays)
    (h : ops[k]? = some o → ∀ M : List (Spec σ), specAt M k = s → (∀ t w, Facts M (maskAt ops k) t w → Facts L (maskAt ops k) t w) → (∀ t, B t = acts ops a0 (vals M t) k) → Ob P ops w0 a0 M k)
    (rest : Chain P ops Q w0 a0 (k + 1) (L ++ [s]) (fun t => (B t).put o.dst (s.val k t)) R) : Chain P ops Q w0 a0 k L B (o :: R) := by
  rintro ⟨hR, -⟩ hl hB
  have ho : ops[k]? = some o := by
    have := congrArg (fun l : List Oper => l[0]?) hR
    simpa using this
  have hk := (Array.getElem?_eq_some_iff.1 ho).1
  obtain ⟨M, n, hkn, hnn, hT, h1, h2, h3, h4⟩ := rest ⟨by rw [← List.tail_drop, hR]; rfl, by omega⟩ (by simp [hl]) (fun t => by
    show (B t).put o.dst (s.val k t) = _
    rw [acts, hB t, acts_congr k (vals_congr (k := k) (L := L ++ [s]) (M := L) (fun i hi => (specAt_app L s (by omega)).symm) t)]
    have e1 : dstOf ops k = o.dst := by simp [dstOf, ho]
    have e2 : vals (L ++ [s]) t k = s.val k t := by unfold vals; rw [← hl, specAt_snoc]
    rw [e1, e2])
  have hM : specAt M k = s := by rw [h1 k (by omega), ← hl, specAt_snoc]
  have hML : ∀ i, i < k → specAt M i = specAt L i := fun i hi => by rw [h1 i (by omega), specAt_app L s (by omega)]
  refine ⟨M, n, by omega, hnn, hT, hML, fun i hi hin => ?_, fun i hi => ?_, h4⟩
  · by_cases e : i = k
    · subst e
      refine h ho M hM (fun t w hF j hj => ?_) (fun t => by rw [hB t]; exact acts_congr _ (fun i hi => (vals_congr hML t i hi).symm))
      have hlt := (hok.sub i hk j hj).1
      rw [← hML j hlt]
      exact hF j hj
    · exact h2 i (by omega) hin
  · by_cases e : i = k
    · subst e; rw [hM]; exact hst
    · exact h3 i (by omega)

theorem Chain.pure (hg : Good ops) {X : (Nat → σ) → Value}
    (h : ∀ t w, Grow w0 w → Facts L (maskAt ops k) t w → Region.wanted o (yielded ops (B t).tmps) = true ∧ (execOp (B t).eval o).run P w = .ok (.value (X t)) w)
    (rest : Chain P ops Q w0 a0 (k + 1) (L ++ [.pure X]) (fun t => (B t).put o.dst (X t)) R) : Chain P ops Q w0 a0 k L B (o :: R) :=
  Chain.step hg (.pure X) trivial (fun ho M hM hF hB o' ho' => by
    rw [ho] at ho'
    injection ho' with ho'
    subst ho'
    rw [hM]
    intro t w hw hN
    have := h t w hw (hF t w hN)
    rw [hB t] at this
    exact .inl ⟨this.1, .inl this.2⟩) rest

theorem Chain.skip (hg : Good ops)
    (h : ∀ t, Region.wanted o (yielded ops (B t).tmps) = false)
    (rest : Chain P ops Q w0 a0 (k + 1) (L ++ [.pure fun _ => undef]) (fun t => (B t).put o.dst undef) R) : Chain P ops Q w0 a0 k L B (o :: R) :=
  Chain.step hg (.pure fun _ => undef) trivial (fun ho M hM hF hB o' ho' => by
    rw [ho] at ho'
    injection ho' with ho'
    subst ho'
    rw [hM]
    intro t w hw hN
    have := h t
    rw [hB t] at this
    exact .inr ⟨this, rfl⟩) rest

theorem Chain.idle (hg : Good ops)
    (h : ∀ t w, Grow w0 w → Facts L (maskAt ops k) t w → Region.wanted o (yielded ops (B t).tmps) = true ∧ (execOp (B t).eval o).run P w = .ok .skip w)
    (rest : Chain P ops Q w0 a0 (k + 1) (L ++ [.pure fun _ => undef]) (fun t => (B t).put o.dst undef) R) : Chain P ops Q w0 a0 k L B (o :: R) :=
  Chain.step hg (.pure fun _ => undef) trivial (fun ho M hM hF hB o' ho' => by
    rw [ho] at ho'
    injection ho' with ho'
    subst ho'
    rw [hM]
    intro t w hw hN
    have := h t w hw (hF t w hN)
    rw [hB t] at this
    exact .inl ⟨this.1, .inr ⟨this.2, rfl⟩⟩) rest

theorem Chain.grow (hg : Good ops) (V : σ → Value) (F : σ → World → Prop) (hst : ∀ x w w', F x w → Grow w w' → F x w')
    (hw : ∀ t, Region.wanted o (yielded ops (B t).tmps) = true)
    (h : ∀ t w, Grow w0 w → Facts L (maskAt ops k) t w → ∀ K : Act → World → Prop, Hid' (∀ s w', Grow w w' → F s w' → K ((B t).put o.dst (V s)) w') → Oper.wp P o (B t) w K NoEx)
    (rest : Chain P ops Q w0 a0 (k + 1) (L ++ [.grow V F]) (fun t => (B t).put o.dst (V (t k))) R) : Chain P ops Q w0 a0 k L B (o :: R) :=
  Chain.step hg (.grow V F) hst (fun ho M hM hF hB o' ho' => by
    rw [ho] at ho'
    injection ho' with ho'
    subst ho'
    rw [hM]
    refine fun t w hgw hN => ⟨by rw [← hB t]; exact hw t, fun K hK => ?_⟩
    rw [← hB t]
    rw [← hB t] at hK
    exact h t w hgw (hF t w hN) K hK) rest

theorem Chain.tail (htl : Tail ops k) (h : ∀ t w, Grow w0 w → Facts L (2 ^ k - 1) t w → wpList P ops Q R (B t) w) : Chain P ops Q w0 a0 k L B R := by
  rintro ⟨hR, hkn⟩ hl hB
  refine ⟨L, k, Nat.le_refl _, hkn, htl, fun _ _ => rfl, fun i hi hin => by omega, fun i hi => ?_, fun t w hw hF => ?_⟩
  · have : specAt L i = .pure fun _ => undef := by unfold specAt; rw [List.getD, List.getElem?_eq_none (by omega)]; rfl
    rw [this]; trivial
  · have hlen : R.length = ops.size - k := by rw [← hR]; simp
    rw [← hB t, ← hlen, wpOps_eq_wpList R k fun j => by rw [← hR]; simp]
    exact h t w hw hF
theorem Chain.done (h : ∀ t w, Grow w0 w → Facts L (2 ^ k - 1) t w → Q .normal (B t) w) : Chain P ops Q w0 a0 k L B [] := by
  rintro ⟨hR, hkn⟩
  have hk : ops.size ≤ k := by simpa using hR
  obtain rfl : k = ops.size := by omega
  exact Chain.tail (R := []) tail_end (fun t w hw hF => h t w hw hF) ⟨hR, hkn⟩
end
theorem Grow.only {w w' : World} (h : Grow w w') : w.grownBy w' none := ⟨h.os, h.tape, h.output, h.size, fun i hi _ => Below.block h i hi⟩
theorem own_grow {w w' : World} {base : Nat} {e : TypeId} {sz n : Nat} {v : Value} {xs : List Value} (h : w.ownsRow base e sz v n xs) (k : Grow w w') : w'.ownsRow base e sz v n xs := h.kept k.only (by
  cases hv : v.ownBlock with
  | none => exact .inl rfl
  | some g => exact .inr (fun he => by cases he))
theorem grow_cell {w w' : World} {p : Addr} {v : Value} (h : w.cell? p = some v) (k : Grow w w') : w'.cell? p = some v := (Below.cell k (World.block_lt_of_cell? w _ h)).trans h
theorem Grow.alloc (w : World) (o : Obj) : Grow w (w.alloc o) := (Below.refl _ _).alloc (Nat.le_refl _) o
theorem Grow.drew (w : World) : Grow w w.drew := ⟨rfl, rfl, rfl, Nat.le_refl _, fun _ _ => rfl⟩
theorem box_cell (W : World) (v : Value) (t : TypeId) : (W.alloc (.cells #[v] t)).cell? ⟨W.heap.size, 0, none⟩ = some v := cell_of_row _ W.heap.size 0 #[v] t (0, 0) (heap_alloc_new W _)
end Go.Proofs.Ytlnokohmmhmoaaa

