/- Walks of package isochronref10. -/
import Derived.Test.YtkknhcdjdcpfcaaInst
import Derived.Test.YtkknhcdjdcpfcaaWObj2
import Derived.Test.YtkknhcdjdcpfcaaXSm
import Derived.Test.YtkknhcdjdcpfcaaXSm
namespace Go.Proofs.Ytkknhcdjdcpfcaa
open Go.Sl Go.Iso
set_option linter.all false

abbrev encBo (b : Bool) : Value := .bool b
theorem r10Cut {c : Nat} (hc : c ≤ 2) : C Try.prog 87 [.int .i64 (c : Int)] [] (fun v L' => v = .int .i64 (sizeN (c : Int) : Int) ∧ L' = []) := by
  have h2 : ∀ i, i ≤ 2 → (2 : Int) * ((2 ^ i : Nat) : Int) ≤ 8 := by intro i hi; rcases i with _ | _ | _ | i <;> first | decide | omega
  refine C_enter1 Try.func87 rfl rfl rfl fun β F => ?_
  refine go ?_
  refine WT_keep [4, 3, 0] rfl ?_
  refine WT_loopN c (fun _ => True) (fun i => [(4, .int .i64 (i : Int)), (3, .int .i64 ((2 ^ (i + 1) : Nat) : Int)), (0, .int .i64 (c : Int))]) (fun _ => []) ?_ 0 (Nat.zero_le _) trivial
  intro i hi _ ih
  by_cases hlt : i < c
  · have hb : ((2 ^ (i + 1) : Nat) : Int) ≤ 4 ∧ 0 ≤ ((2 ^ (i + 1) : Nat) : Int) := by rcases i with _ | _ | i <;> first | decide | omega
    refine go ?_
    rw [show 2 * 2 ^ (i + 1) = 2 ^ (i + 1 + 1) by rw [Nat.pow_succ 2 (i + 1)]; omega]
    refine WT_keep [4, 3, 0] rfl ?_
    exact ih hlt trivial
  · have : i = c := by omega
    subst this
    refine go ?_
    refine WT_ret (rs := [.tmp 2]) Try.func87 rfl rfl ⟨?_, rfl⟩
    rcases i with _ | _ | _ | i
    · rfl
    · rfl
    · rfl
    · omega

/-! ### The pool -/
abbrev rp4 (p bk ck bc bl n : Nat) (K : List Int) (sp : List Value) (cs : List Int) (Lv : List Bool) : List SP :=
  [cel p [.slice (some ⟨bk, 0, none⟩) n ck, .slice (some ⟨bc, 0, none⟩) (16 * n) (16 * n), .slice (some ⟨bl, 0, none⟩) (16 * n) (16 * n)] 134,
    cel bk (K.map encI ++ sp) 3, cel bc (cs.map encI) 3, cel bl (Lv.map encBo) 4]
structure RpOk (n : Nat) (K : List Int) (cs : List Int) (Lv : List Bool) : Prop where
  le : n ≤ 24
  kl : K.length = n
  cl : cs.length = 16 * n
  ll : Lv.length = 16 * n
  cls : ∀ k ∈ K, k = -1 ∨ k = 0 ∨ k = 1 ∨ k = 2
theorem map_at {α : Type} {f : α → Value} {l : List α} {i : Nat} {x : α} (h : l[i]? = some x) (sp : List Value) : (l.map f ++ sp)[0 + i * 1]? = some (f x) := by
  have hl := (List.getElem?_eq_some_iff.1 h).1
  rw [Nat.zero_add, Nat.mul_one, List.getElem?_append_left (by simpa using hl)]
  simp [h]
theorem map_at' {α : Type} {f : α → Value} {l : List α} {i : Nat} {x : α} (h : l[i]? = some x) : (l.map f)[0 + i * 1]? = some (f x) := by
  have := map_at (f := f) h []
  simpa using this
theorem spl_one {α : Type} {f : α → Value} {l : List α} {i : Nat} {x : α} : spl (l.map f) (0 + i * 1) [f x] = (l.set i x).map f := by
  simp [spl, List.map_set]
theorem spl_one' {α : Type} {f : α → Value} {l : List α} {i : Nat} {x : α} {sp : List Value} (h : i < l.length) : spl (l.map f ++ sp) (0 + i * 1) [f x] = (l.set i x).map f ++ sp := by
  simp [spl, List.map_set, h]
/-- The first block of a page that is not used. -/
def gapJ (Lv : List Bool) (pg c : Nat) : Option Nat := (List.range (partsN (c : Int))).find? fun j => !Lv.getD (pg * 16 + sizeN (c : Int) * j) true
def gapV (Lv : List Bool) (pg c : Nat) : Int := match gapJ Lv pg c with
  | some j => ((pg * 16 + sizeN (c : Int) * j : Nat) : Int)
  | none => -1
theorem find_range {n i : Nat} {f : Nat → Bool} (hi : i < n) (h1 : f i = true) (h : ∀ j, j < i → f j = false) : (List.range n).find? f = some i := by
  rw [List.find?_range_eq_some]
  exact ⟨h1, by simpa using hi, fun j hj => by simp [h j hj]⟩
theorem find_range_none {n : Nat} {f : Nat → Bool} (h : ∀ j, j < n → f j = false) : (List.range n).find? f = none := by
  rw [List.find?_range_eq_none]
  exact fun j hj => by simp [h j hj]
theorem cls_mem {c : Nat} (hc : c ≤ 2) : (c : Int) = 0 ∨ (c : Int) = 1 ∨ (c : Int) = 2 := by omega

section
variable {p bk ck bc bl n : Nat} {K : List Int} {sp : List Value} {cs : List Int} {Lv : List Bool}
theorem r10Gap (ok : RpOk n K cs Lv) {pg c : Nat} (hk : K[pg]? = some (c : Int)) (hc : c ≤ 2) :
    C Try.prog 85 [.pointer (some ⟨p, 0, none⟩), .int .i64 (pg : Int)] (rp4 p bk ck bc bl n K sp cs Lv) (fun v L' => v = .int .i64 (gapV Lv pg c) ∧ L' = rp4 p bk ck bc bl n K sp cs Lv) := by
  have hn := ok.le
  have hpg : pg < n := by rw [← ok.kl]; exact (List.getElem?_eq_some_iff.1 hk).1
  have atK := map_at (f := encI) hk sp
  have hpm := partsN_mul (cls_mem hc)
  refine C_enter2 Try.func85 rfl rfl rfl fun β F => ?_
  refine go ?_
  refine WT_keep [5, 0, 1] rfl ?_
  refine WT_loopN (partsN (c : Int)) (fun j => ∀ j', j' < j → Lv.getD (pg * 16 + sizeN (c : Int) * j') true = true) (fun j => [(5, .int .i64 ((sizeN (c : Int) * j : Nat) : Int)), (0, .pointer (some ⟨p, 0, none⟩)), (1, .int .i64 (pg : Int))]) (fun _ => rp4 p bk ck bc bl n K sp cs Lv) ?_ 0 (Nat.zero_le _) (fun j' h => absurd h (Nat.not_lt_zero _))
  intro j hj hall ih
  by_cases hlt : j < partsN (c : Int)
  · have h16 : sizeN (c : Int) * j + sizeN (c : Int) ≤ 16 := by rw [← hpm, Nat.mul_comm (partsN (c : Int)), ← Nat.mul_succ]; exact Nat.mul_le_mul_left _ hlt
    have hsz := sizeN_pos (c := (c : Int))
    have hj16 : sizeN (c : Int) * j < 16 := by omega
    obtain ⟨b, hb⟩ : ∃ b, Lv[pg * 16 + sizeN (c : Int) * j]? = some b := ⟨Lv[pg * 16 + sizeN (c : Int) * j]'(by rw [ok.ll]; omega), by simp⟩
    have atL := map_at' (f := encBo) hb
    have hgd : Lv.getD (pg * 16 + sizeN (c : Int) * j) true = b := by rw [List.getD_eq_getElem?_getD, hb]; rfl
    cases b with
    | false =>
      refine go ?_
      refine WT_ret (rs := [.tmp 4]) Try.func85 rfl rfl ⟨?_, rfl⟩
      have : gapJ Lv pg c = some j := find_range hlt (by simp only [hgd]; rfl) (fun j' h => by simp only [hall j' h]; rfl)
      simp only [gapV, this]; rfl
    | true =>
      refine go ?_
      refine call (r10Cut hc) ?_
      rintro _ _ ⟨rfl, rfl⟩
      refine go ?_
      rw [show sizeN (c : Int) * j + sizeN (c : Int) = sizeN (c : Int) * (j + 1) from rfl]
      refine WT_keep [5, 0, 1] rfl ?_
      refine ih hlt fun j' h => ?_
      rcases Nat.lt_or_ge j' j with h1 | h1
      · exact hall j' h1
      · have : j' = j := by omega
        subst this; exact hgd
  · have hjn : j = partsN (c : Int) := by omega
    subst hjn
    rw [show sizeN (c : Int) * partsN (c : Int) = 16 by rw [Nat.mul_comm]; exact hpm]
    refine go ?_
    refine WT_ret (rs := [.tmp 4]) Try.func85 rfl rfl ⟨?_, rfl⟩
    have : gapJ Lv pg c = none := find_range_none (fun j' h => by simp only [hall j' h]; rfl)
    simp only [gapV, this]; rfl
theorem r10Take (ok : RpOk n K cs Lv) {a m : Nat} (ha : a + m ≤ 16 * n) (ha' : a < 16 * n) :
    C Try.prog 86 [.pointer (some ⟨p, 0, none⟩), .int .i64 (a : Int), .int .i64 (m : Int)] (rp4 p bk ck bc bl n K sp cs Lv)
      (fun v L' => ∃ cs', v = .tuple #[] ∧ RpOk n K cs' (Lv.set a true) ∧ L' = rp4 p bk ck bc bl n K sp cs' (Lv.set a true)) := by
  have hn := ok.le
  refine C_enter3 Try.func86 rfl rfl rfl fun β F => ?_
  refine go ?_
  refine WO_storeS (b := bl) (off := 0 + a * 1) (l := Lv.map encBo) (vs := [.bool true]) rfl rfl rfl rfl (by simp [Value.oneCell']) (by rw [List.length_map, ok.ll]; simp; omega) spl_one updA rfl rfl ?_
  refine go ?_
  refine WT_keep [6, 0, 1, 2] rfl ?_
  refine WT_loopX m (fun _ cs' => RpOk n K cs' (Lv.set a true)) (fun j _ => [(6, .int .i64 (j : Int)), (0, .pointer (some ⟨p, 0, none⟩)), (1, .int .i64 (a : Int)), (2, .int .i64 (m : Int))]) (fun _ cs' => rp4 p bk ck bc bl n K sp cs' (Lv.set a true)) ?_ 0 cs (Nat.zero_le _) ⟨ok.le, ok.kl, ok.cl, by rw [List.length_set]; exact ok.ll, ok.cls⟩
  intro j cs' hj ok' ih
  have hcs := ok'.cl
  by_cases hlt : j < m
  · refine go ?_
    refine WO_storeS (b := bc) (off := 0 + (a + j) * 1) (l := cs'.map encI) (vs := [encI 0]) rfl rfl rfl rfl (by simp [Value.oneCell']) (by rw [List.length_map, ok'.cl]; simp; omega) spl_one updA rfl rfl ?_
    refine go ?_
    refine WT_keep [6, 0, 1, 2] rfl ?_
    exact pickN (ih (cs'.set (a + j) 0) hlt ⟨ok'.le, ok'.kl, by rw [List.length_set]; exact ok'.cl, ok'.ll, ok'.cls⟩)
  · refine go ?_
    refine WT_end (rs := []) Try.func86 rfl rfl ⟨cs', rfl, ok', rfl⟩
end
end Go.Proofs.Ytkknhcdjdcpfcaa
