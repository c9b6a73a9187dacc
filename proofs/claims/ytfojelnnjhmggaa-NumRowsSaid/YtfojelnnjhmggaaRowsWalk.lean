/-
  num: the walk of NumRows.
-/
import Derived.Test.YtfojelnnjhmggaaAwake
import Derived.Test.YtfojelnnjhmggaaOpen
namespace Go.Proofs.Ytfojelnnjhmggaa
open Go.RowKit

def rowB : List Nat → List Nat
  | [] => []
  | n :: r => bts n ++ rowB r
theorem rowB_app : ∀ a b : List Nat, rowB (a ++ b) = rowB a ++ rowB b
  | [], b => rfl
  | n :: r, b => by simp [rowB, rowB_app r b]
theorem rowB_len : ∀ a : List Nat, (∀ x ∈ a, x < 18446744073709551616) → (rowB a).length ≤ 10 * a.length
  | [], _ => by simp [rowB]
  | n :: r, h => by
    have h1 := bts_ten (h n (by simp))
    have h2 := rowB_len r (fun x hx => h x (by simp [hx]))
    simp only [rowB, List.length_append, List.length_cons]
    omega
theorem rowB_bytes : ∀ a : List Nat, (∀ x ∈ a, x < 18446744073709551616) → ∀ c ∈ rowB a, c < 256
  | [], _ => by simp [rowB]
  | n :: r, h => by
    intro c hc
    rcases List.mem_append.1 hc with hc | hc
    · exact bts_bytes n (by have := pow64; have := h n (by simp); omega) c hc
    · exact rowB_bytes r (fun x hx => h x (by simp [hx])) c hc
theorem rowB_take {a : List Nat} {k x : Nat} (hk : a[k]? = some x) : rowB (a.take (k + 1)) = rowB (a.take k) ++ bts x := by
  rw [List.take_add_one, hk, rowB_app]
  simp [rowB]
theorem rowB_drop {a : List Nat} {k x : Nat} (hk : a[k]? = some x) : rowB a = rowB (a.take k) ++ (bts x ++ rowB (a.drop (k + 1))) := by
  have hlt := (List.getElem?_eq_some_iff.1 hk).1
  have e : a = a.take k ++ (x :: a.drop (k + 1)) := by
    have h1 := (List.getElem?_eq_some_iff.1 hk).2
    rw [← h1]; simp
  have := congrArg rowB e
  rw [rowB_app] at this
  exact this

set_option maxRecDepth 100000 in
set_option maxHeartbeats 2000000 in
theorem rows_any {A : Option Addr} {n c : Nat} {l : List Nat} {w : World} (h : Lies w 1 A n c (nums .u64 l)) (hl : ∀ x ∈ l, x < 18446744073709551616) :
    Calls Try.prog 4 #[.slice A n c] w fun e w' => e = .returned (.bool true) ∧ Below w.heap.size w w' := by
  have hln : l.length = n := by have := h.len; simp [nums] at this; omega
  have hle := h.le
  have hbig := h.big
  obtain ⟨m, hm, hm1, hm2⟩ : ∃ m : Nat, min (n : Int) 30 = (m : Int) ∧ m ≤ n ∧ m ≤ 30 := ⟨min n 30, by omega, by omega, by omega⟩
  have hm3 : max (m : Int) 0 = (m : Int) := by omega
  obtain ⟨l', hl'⟩ : ∃ l', l' = l.take m := ⟨_, rfl⟩
  have hlen' : l'.length = m := by rw [hl']; simp; omega
  have hb' : ∀ x ∈ l', x < 18446744073709551616 := fun x hx => hl x (List.mem_of_mem_take (hl' ▸ hx))
  have hget : ∀ k, k < m → ∃ x, l'[k]? = some x ∧ l[k]? = some x := fun k hk => ⟨l[k], by subst hl'; rw [List.getElem?_take, if_pos hk]; simp, by simp⟩
  have HL := Lib.hid hln; have HB := Lib.hid hb'; have HG := Lib.hid hget; have HLE := Lib.hid hlen'
  clear hln hb' hget hlen' hl' hl
  go_enter Try.func4, Try.ntmps4
  go_wp2
  have HM := Lib.hid hm; clear hm hm3
  go_loopw [3, 23] (fun v i wr => ∃ (k : Nat) (A' : Option Addr) (c' : Nat), k ≤ m ∧ i = .int .i64 k ∧ v = .slice A' (rowB (l'.take k)).length c' ∧ Lies wr 1 A' (rowB (l'.take k)).length c' (byt (rowB (l'.take k))) ∧ Below w.heap.size w wr) (fun _ i _ => m - (intOf i).toNat)
  case atStart => exact ⟨0, none, 0, Nat.zero_le _, rfl, rfl, Lies.nil _ _, Below.refl _ _⟩
  case round =>
    obtain ⟨k, A', c', hk, rfl, rfl, hL, hb⟩ := hrel
    by_cases hlt : k < m
    · obtain ⟨b, off, rfl, hbs, hcell⟩ := h.pos (by omega) (by decide)
      obtain ⟨x, hx', hx⟩ := HG.out k hlt
      have hc := (hb.cell (p := ⟨b, off + k, none⟩) hbs).trans (hcell k (.int .u64 x) (by simp [nums, hx]))
      have hxb : x < 18446744073709551616 := HB.out x (List.mem_of_getElem? hx')
      have e := rowB_take hx'
      have HX := Lib.hid hxb
      have HE := Lib.hid e
      have hlen := rowB_len (l'.take k) (fun y hy => HB.out y (List.mem_of_mem_take hy))
      have htk : (l'.take k).length ≤ k := by simp; omega
      clear hcell hx hx' hxb e
      go_wp2_with fail
      refine (put_at x x _ _ rfl HE.out.symm rfl hL HX.out (by omega)).mono ?_
      rintro e w1 ⟨A1, c1, rfl, -, hL1, hb1⟩
      go_wp2
      go_roundw
      case rel => exact ⟨k + 1, A1, c1, by omega, by go_num, by rw [HE.out, List.length_append], by rw [HE.out] at hL1 ⊢; rw [List.length_append]; exact hL1, hb.trans (hb1.mono hb.size)⟩
      case measure => simp [intOf]; omega
    · obtain rfl : k = m := by omega
      have ek : l'.take k = l' := by rw [← HLE.out]; simp
      have hwhole := rowB_len l' HB.out
      rw [HLE.out] at hwhole
      rw [ek] at hL ⊢
      obtain ⟨T, hT⟩ : ∃ T, T = rowB l' := ⟨_, rfl⟩
      rw [← hT] at hL hwhole ⊢
      obtain ⟨tl, htl⟩ : ∃ tl, tl = T.length := ⟨_, rfl⟩
      rw [← htl] at hL hwhole ⊢
      have HT := Lib.hid hT; have HTL := Lib.hid htl; have HEK := Lib.hid ek
      have hle' := hL.le
      have hbig' := hL.big
      clear hT htl ek hlt
      go_wp2
      go_loop [6, 33] (fun a i => ∃ j p : Nat, j ≤ k ∧ i = .int .i64 j ∧ a = .int .i64 p ∧ Hid (p = (rowB (l'.take j)).length)) (fun _ i => k - (intOf i).toNat)
      case atStart => exact ⟨0, 0, Nat.zero_le _, rfl, rfl, rfl⟩
      case round =>
        obtain ⟨j, p, hj, rfl, rfl, hp⟩ := hrel
        by_cases hlt : j < k
        · obtain ⟨b, off, rfl, hbs, hcell⟩ := h.pos (by omega) (by decide)
          obtain ⟨x, hx', hx⟩ := HG.out j hlt
          have hc := (hb.cell (p := ⟨b, off + j, none⟩) hbs).trans (hcell j (.int .u64 x) (by simp [nums, hx]))
          have hxb : x < 18446744073709551616 := HB.out x (List.mem_of_getElem? hx')
          have hd := rowB_drop hx'
          rw [← HT.out] at hd
          have hdl : T.length = p + ((bts x).length + (rowB (l'.drop (j + 1))).length) := by rw [hd, List.length_append, List.length_append, hp.out]
          have hpos := bts_pos x (by have := pow64; omega)
          obtain ⟨t, ht⟩ : ∃ t, t = (bts x).length := ⟨_, rfl⟩
          rw [← ht] at hdl hpos
          have hpt : p + t ≤ tl := by rw [HTL.out, hdl]; omega
          obtain ⟨g, off', rfl, hgs, -⟩ := hL.pos (by omega) (by decide)
          have hcutb : (T.drop p).take (tl - p) = bts x ++ rowB (l'.drop (j + 1)) := by
            rw [HTL.out, ← List.length_drop, List.take_length, hd, hp.out, List.drop_left]
          have hcut := hL.cut1 p tl (by omega) (Nat.le_refl _)
          rw [hcutb] at hcut
          have hgb := get_bts x hxb (rowB (l'.drop (j + 1)))
          rw [← ht] at hgb
          have hbb : ∀ c ∈ bts x ++ rowB (l'.drop (j + 1)), c < 256 := fun c hc => rowB_bytes l' HB.out c (by rw [← HT.out, hd]; exact List.mem_append_right _ hc)
          have htk : ∀ q, q ≤ t → (T.drop p).take q = (bts x).take q := fun q hq => by
            rw [hd, hp.out, List.drop_left, List.take_append_of_le_length (by omega)]
          have HX := Lib.hid hxb; have HGB := Lib.hid hgb; have HBB := Lib.hid hbb; have HTK := Lib.hid htk; have HT2 := Lib.hid ht
          have HNE := Lib.hid (rowB_take hx')
          clear hcell hx hx' hxb hd hdl hcutb hgb hbb htk ht
          go_wp2_with fail
          refine (get_at _ x t 0 hcut HBB.out (by rw [HGB.out.1]) (by rw [HGB.out.2.1]) (by rw [HGB.out.2.2]; rfl)).mono ?_
          rintro e w1 ⟨rfl, rfl⟩
          go_wp2_with fail
          go_loop [12] (fun q => ∃ q' : Nat, 1 ≤ q' ∧ q' ≤ t ∧ q = .int .i64 q') (fun q => t - (intOf q).toNat)
          case atStart => exact ⟨1, Nat.le_refl _, hpos, rfl⟩
          case round =>
            obtain ⟨q, hq1, hq, rfl⟩ := hrel
            by_cases hql : q < t
            · have hc2 := hL.cut1 p (p + q) (by omega) (by omega)
              rw [show p + q - p = q by omega, HTK.out q hq] at hc2
              have hb2 : ∀ c ∈ (bts x).take q, c < 256 := fun c hc => HBB.out c (List.mem_append_left _ (List.mem_of_mem_take hc))
              have hs := short_bts x HX.out q (by rw [← HT2.out]; exact hql)
              have hz := get_err (l := (bts x).take q) (by rw [hs]; decide)
              have HS := Lib.hid hs; have HZ := Lib.hid hz; have HB2 := Lib.hid hb2
              clear hs hz hb2
              go_wp2_with fail
              refine (get_at _ 0 0 4 hc2 HB2.out (by rw [HZ.out.1]; rfl) (by rw [HZ.out.2]; rfl) (by rw [HS.out]; rfl)).mono ?_
              rintro e w1 ⟨rfl, rfl⟩
              go_wp2
              go_round
              case rel => exact ⟨q + 1, by omega, by omega, by go_num⟩
              case measure => simp [intOf]; omega
            · obtain rfl : q = t := by omega
              go_wp2
              go_round
              case rel => exact ⟨j + 1, p + q, by omega, by go_num, by go_num, by show _ = _; rw [HNE.out, List.length_append, ← HT2.out, ← hp.out]⟩
              case measure => simp [intOf]; omega
        · obtain rfl : j = k := by omega
          have hpe : p = tl := by rw [hp.out, HEK.out, HTL.out, HT.out]
          subst hpe
          go_wp2_with fail
          refine awake_any.mono ?_
          rintro e w1 ⟨rfl, hb1⟩
          go_wp2
          go_ret
          exact ⟨rfl, hb.trans (hb1.mono hb.size)⟩
end Go.Proofs.Ytfojelnnjhmggaa
