/- Walks of package isochronref10: Alloc, in, Begin, SetCell. -/
import Derived.Test.YtkknhcdjdcpfcaaInst
import Derived.Test.YtkknhcdjdcpfcaaWR10
namespace Go.Proofs.Ytkknhcdjdcpfcaa
open Go.Sl Go.Iso
set_option linter.all false

/-- A block of a class: its address, and what it leaves. -/
def allocR (n : Nat) (K : List Int) (Lv : List Bool) (c : Nat) : Option (Nat × List Int × List Bool) :=
  match (List.range n).find? fun pg => decide (K.getD pg 0 = (c : Int)) && (gapJ Lv pg c).isSome with
  | some pg => some (pg * 16 + sizeN (c : Int) * (gapJ Lv pg c).getD 0, K, Lv.set (pg * 16 + sizeN (c : Int) * (gapJ Lv pg c).getD 0) true)
  | none => match (List.range n).find? fun pg => decide (K.getD pg 0 = -1) with
    | some pg => some (pg * 16, K.set pg (c : Int), Lv.set (pg * 16) true)
    | none => none
theorem gapJ_lt {Lv : List Bool} {pg c j : Nat} (h : gapJ Lv pg c = some j) : j < partsN (c : Int) := by
  have := List.mem_of_find?_eq_some h
  simpa using this
section
variable {p bk ck bc bl n : Nat} {K : List Int} {sp : List Value} {cs : List Int} {Lv : List Bool}
set_option maxHeartbeats 1000000 in
theorem r10Alloc (ok : RpOk n K cs Lv) {c : Nat} (hc : c ≤ 2) :
    C Try.prog 68 [.pointer (some ⟨p, 0, none⟩), .int .i64 (c : Int)] (rp4 p bk ck bc bl n K sp cs Lv)
      (fun v L' => match allocR n K Lv c with
        | some (a, K', Lv') => ∃ cs', RpOk n K' cs' Lv' ∧ v = .tuple [.int .i64 (a : Int), .int .i64 0].toArray ∧ L' = rp4 p bk ck bc bl n K' sp cs' Lv'
        | none => v = .tuple [.int .i64 0, .int .i64 14].toArray ∧ L' = rp4 p bk ck bc bl n K sp cs Lv) := by
  have hn := ok.le
  have hpm := partsN_mul (cls_mem hc)
  refine C_enter2 Try.func68 rfl rfl rfl fun β F => ?_
  refine go ?_
  refine WT_keep [6, 0, 1] rfl ?_
  refine WT_loopN n (fun pg => ∀ j, j < pg → (decide (K.getD j 0 = (c : Int)) && (gapJ Lv j c).isSome) = false) (fun pg => [(6, .int .i64 (pg : Int)), (0, .pointer (some ⟨p, 0, none⟩)), (1, .int .i64 (c : Int))]) (fun _ => rp4 p bk ck bc bl n K sp cs Lv) ?_ 0 (Nat.zero_le _) (fun j h => absurd h (Nat.not_lt_zero _))
  intro pg hpg hall ih
  by_cases hlt : pg < n
  · obtain ⟨k, hk⟩ : ∃ k, K[pg]? = some k := ⟨K[pg]'(by rw [ok.kl]; exact hlt), by simp⟩
    have atK := map_at (f := encI) hk sp
    have hgd : K.getD pg 0 = k := by rw [List.getD_eq_getElem?_getD, hk]; rfl
    have next : (decide (K.getD pg 0 = (c : Int)) && (gapJ Lv pg c).isSome) = false → ∀ j, j < pg + 1 → (decide (K.getD j 0 = (c : Int)) && (gapJ Lv j c).isSome) = false := fun h j hj => by
      rcases Nat.lt_or_ge j pg with h1 | h1
      · exact hall j h1
      · have : j = pg := by omega
        subst this; exact h
    by_cases hkc : k = (c : Int)
    · subst hkc
      cases hg : gapJ Lv pg c with
      | none =>
        have hv : gapV Lv pg c = -1 := by simp only [gapV, hg]
        refine go ?_
        refine call (r10Gap ok hk hc) ?_
        rintro _ _ ⟨rfl, rfl⟩
        rw [hv]
        refine go ?_
        refine WT_keep [6, 0, 1] rfl ?_
        exact ih hlt (next (by simp [hg]))
      | some j =>
        have hv : gapV Lv pg c = ((pg * 16 + sizeN (c : Int) * j : Nat) : Int) := by simp only [gapV, hg]
        have hjl := gapJ_lt hg
        have h16 : sizeN (c : Int) * j + sizeN (c : Int) ≤ 16 := by rw [← hpm, Nat.mul_comm (partsN (c : Int)), ← Nat.mul_succ]; exact Nat.mul_le_mul_left _ hjl
        have hsz := sizeN_pos (c := (c : Int))
        have eA : allocR n K Lv c = some (pg * 16 + sizeN (c : Int) * j, K, Lv.set (pg * 16 + sizeN (c : Int) * j) true) := by
          simp only [allocR]
          rw [find_range hlt (by simp [hk, hg]) hall]
          simp only [hg, Option.getD_some]
        refine go ?_
        refine call (r10Gap ok hk hc) ?_
        rintro _ _ ⟨rfl, rfl⟩
        rw [hv]
        refine go ?_
        refine call (r10Gap ok hk hc) ?_
        rintro _ _ ⟨rfl, rfl⟩
        rw [hv]
        refine go ?_
        refine call (r10Cut hc) ?_
        rintro _ _ ⟨rfl, rfl⟩
        refine go ?_
        refine call (r10Take ok (a := pg * 16 + sizeN (c : Int) * j) (m := sizeN (c : Int)) (by omega) (by omega)) ?_
        rintro _ _ ⟨cs', rfl, ok', rfl⟩
        refine go ?_
        refine WT_ret (rs := [.tmp 4, .tmp 5]) Try.func68 rfl rfl ?_
        simp only [eA]
        exact ⟨cs', ok', rfl, rfl⟩
    · refine go ?_
      refine WT_keep [6, 0, 1] rfl ?_
      exact ih hlt (next (by simp [hk, hkc]))
  · have hpn : pg = n := by omega
    have hnone : (List.range n).find? (fun pg => decide (K.getD pg 0 = (c : Int)) && (gapJ Lv pg c).isSome) = none := find_range_none (fun j hj => hall j (by omega))
    refine go ?_
    refine WT_keep [8, 0, 1] rfl ?_
    refine WT_loopN n (fun pg => ∀ j, j < pg → decide (K.getD j 0 = -1) = false) (fun pg => [(8, .int .i64 (pg : Int)), (0, .pointer (some ⟨p, 0, none⟩)), (1, .int .i64 (c : Int))]) (fun _ => rp4 p bk ck bc bl n K sp cs Lv) ?_ 0 (Nat.zero_le _) (fun j h => absurd h (Nat.not_lt_zero _))
    clear ih hall hpg hlt hpn pg
    intro pg hpg hall ih
    by_cases hlt : pg < n
    · obtain ⟨k, hk⟩ : ∃ k, K[pg]? = some k := ⟨K[pg]'(by rw [ok.kl]; exact hlt), by simp⟩
      have atK := map_at (f := encI) hk sp
      have hgd : K.getD pg 0 = k := by rw [List.getD_eq_getElem?_getD, hk]; rfl
      by_cases hkc : k = -1
      · subst hkc
        have eA : allocR n K Lv c = some (pg * 16, K.set pg (c : Int), Lv.set (pg * 16) true) := by
          simp only [allocR, hnone]
          rw [find_range hlt (by simp [hk]) hall]
        have hs8 : sizeN (c : Int) ≤ 16 := by rcases cls_mem hc with h | h | h <;> rw [h] <;> decide
        have ok1 : RpOk n (K.set pg (c : Int)) cs Lv := ⟨ok.le, by rw [List.length_set]; exact ok.kl, ok.cl, ok.ll, fun k hk => by
          rcases List.mem_or_eq_of_mem_set hk with h | h
          · exact ok.cls k h
          · subst h; exact .inr (cls_mem hc)⟩
        refine go ?_
        refine WO_storeS (b := bk) (off := 0 + pg * 1) (l := K.map encI ++ sp) (vs := [encI c]) rfl rfl rfl rfl (by simp [Value.oneCell']) (by rw [List.length_append, List.length_map, ok.kl]; simp; omega) (spl_one' (by rw [ok.kl]; exact hlt)) updA rfl rfl ?_
        refine go ?_
        refine call (r10Cut hc) ?_
        rintro _ _ ⟨rfl, rfl⟩
        refine go ?_
        refine call (r10Take ok1 (a := pg * 16) (m := sizeN (c : Int)) (by omega) (by omega)) ?_
        rintro _ _ ⟨cs', rfl, ok', rfl⟩
        refine go ?_
        refine WT_ret (rs := [.tmp 4, .tmp 5]) Try.func68 rfl rfl ?_
        simp only [eA]
        exact ⟨cs', ok', rfl, rfl⟩
      · refine go ?_
        refine WT_keep [8, 0, 1] rfl ?_
        refine ih hlt fun j hj => ?_
        rcases Nat.lt_or_ge j pg with h1 | h1
        · exact hall j h1
        · have : j = pg := by omega
          subst this; simp [hk, hkc]
    · have hnone2 : (List.range n).find? (fun pg => decide (K.getD pg 0 = -1)) = none := find_range_none (fun j hj => hall j (by omega))
      have eA : allocR n K Lv c = none := by simp only [allocR, hnone, hnone2]
      refine go ?_
      refine WT_ret (rs := [.tmp 4, .tmp 5]) Try.func68 rfl rfl ?_
      rw [eA]
      exact ⟨rfl, rfl⟩
theorem r10In (ok : RpOk n K cs Lv) (a : Int) :
    C Try.prog 96 [.pointer (some ⟨p, 0, none⟩), .int .i64 a] (rp4 p bk ck bc bl n K sp cs Lv) (fun v L' => v = .bool (decide (0 ≤ a ∧ a < ((16 * n : Nat) : Int))) ∧ L' = rp4 p bk ck bc bl n K sp cs Lv) := by
  refine C_enter2 Try.func96 rfl rfl rfl fun β F => ?_
  by_cases h0 : 0 ≤ a
  · by_cases h1 : a < ((16 * n : Nat) : Int)
    · refine go ?_
      refine WT_ret (rs := [.tmp 4]) Try.func96 rfl rfl ⟨?_, rfl⟩
      rw [decide_eq_true ⟨h0, h1⟩]; rfl
    · refine go ?_
      refine WT_ret (rs := [.tmp 4]) Try.func96 rfl rfl ⟨?_, rfl⟩
      rw [decide_eq_false (fun h => h1 h.2)]; rfl
  · refine go ?_
    refine WT_ret (rs := [.tmp 4]) Try.func96 rfl rfl ⟨?_, rfl⟩
    rw [decide_eq_false (fun h => h0 h.1)]; rfl
theorem r10Begin (ok : RpOk n K cs Lv) (a : Int) :
    C Try.prog 90 [.pointer (some ⟨p, 0, none⟩), .int .i64 a] (rp4 p bk ck bc bl n K sp cs Lv)
      (fun v L' => ∃ y e, v = .tuple [.int .i64 y, .int .i64 e].toArray ∧ (e = 0 → 0 ≤ a ∧ a < ((16 * n : Nat) : Int)) ∧ L' = rp4 p bk ck bc bl n K sp cs Lv) := by
  have hn := ok.le
  refine C_enter2 Try.func90 rfl rfl rfl fun β F => ?_
  refine go ?_
  refine call (r10In ok a) ?_
  rintro _ _ ⟨rfl, rfl⟩
  by_cases hin : 0 ≤ a ∧ a < ((16 * n : Nat) : Int)
  · rw [decide_eq_true hin]
    obtain ⟨m, rfl⟩ : ∃ m : Nat, a = (m : Int) := ⟨a.toNat, by omega⟩
    have hm : m < 16 * n := by omega
    obtain ⟨k, hk⟩ : ∃ k, K[m / 16]? = some k := ⟨K[m / 16]'(by rw [ok.kl]; omega), by simp⟩
    have atK := map_at (f := encI) hk sp
    by_cases hk1 : k = -1
    · subst hk1
      refine go ?_
      refine WT_ret (rs := [.tmp 4, .tmp 5]) Try.func90 rfl rfl ⟨_, _, rfl, fun _ => hin, rfl⟩
    · obtain ⟨c, hc, rfl⟩ : ∃ c : Nat, c ≤ 2 ∧ k = (c : Int) := by
        rcases ok.cls k (List.mem_of_getElem? hk) with h | h | h | h
        · exact absurd h hk1
        · exact ⟨0, by omega, h⟩
        · exact ⟨1, by omega, h⟩
        · exact ⟨2, by omega, h⟩
      have hsz := sizeN_pos (c := (c : Int))
      refine go ?_
      refine call (r10Cut hc) ?_
      rintro _ _ ⟨rfl, rfl⟩
      have hle : m % sizeN (c : Int) ≤ m := Nat.mod_le _ _
      refine go ?_
      rw [show ((m : Int) - ((m % sizeN (c : Int) : Nat) : Int)) = ((m - m % sizeN (c : Int) : Nat) : Int) by omega]
      obtain ⟨b, hb⟩ : ∃ b, Lv[m - m % sizeN (c : Int)]? = some b := ⟨Lv[m - m % sizeN (c : Int)]'(by rw [ok.ll]; omega), by simp⟩
      have atL := map_at' (f := encBo) hb
      cases b with
      | false =>
        refine go ?_
        refine WT_ret (rs := [.tmp 4, .tmp 5]) Try.func90 rfl rfl ⟨_, _, rfl, fun _ => hin, rfl⟩
      | true =>
        refine go ?_
        refine WT_ret (rs := [.tmp 4, .tmp 5]) Try.func90 rfl rfl ⟨_, _, rfl, fun _ => hin, rfl⟩
  · rw [decide_eq_false hin]
    refine go ?_
    refine WT_ret (rs := [.tmp 4, .tmp 5]) Try.func90 rfl rfl ⟨_, _, rfl, fun h => (by cases h), rfl⟩
theorem r10SetCell (ok : RpOk n K cs Lv) (a x : Int) :
    C Try.prog 71 [.pointer (some ⟨p, 0, none⟩), .int .i64 a, .int .i64 x] (rp4 p bk ck bc bl n K sp cs Lv)
      (fun v L' => ∃ e cs', v = .int .i64 e ∧ RpOk n K cs' Lv ∧ L' = rp4 p bk ck bc bl n K sp cs' Lv) := by
  have hn := ok.le
  refine C_enter3 Try.func71 rfl rfl rfl fun β F => ?_
  refine go ?_
  refine call (r10Begin ok a) ?_
  rintro _ _ ⟨y, e, rfl, he, rfl⟩
  by_cases h0 : e = 0
  · obtain ⟨h1, h2⟩ := he h0
    obtain ⟨m, rfl⟩ : ∃ m : Nat, a = (m : Int) := ⟨a.toNat, by omega⟩
    have hm : m < 16 * n := by omega
    subst h0
    refine go ?_
    refine WO_storeS (b := bc) (off := 0 + m * 1) (l := cs.map encI) (vs := [encI x]) rfl rfl rfl rfl (by simp [Value.oneCell']) (by rw [List.length_map, ok.cl]; simp; omega) spl_one updA rfl rfl ?_
    refine go ?_
    refine WT_ret (rs := [.tmp 6]) Try.func71 rfl rfl ⟨_, cs.set m x, rfl, ⟨ok.le, ok.kl, by rw [List.length_set]; exact ok.cl, ok.ll, ok.cls⟩, rfl⟩
  · refine go ?_
    refine WT_ret (rs := [.tmp 6]) Try.func71 rfl rfl ⟨_, cs, rfl, ok, rfl⟩
end
end Go.Proofs.Ytkknhcdjdcpfcaa
