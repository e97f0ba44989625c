/- Walks of packages isochronref12, isochronref13 and isochronref03. -/
import Derived.Test.YtkknhcdjdcpfcaaInst
import Derived.Test.YtkknhcdjdcpfcaaWR11f
namespace Go.Proofs.Ytkknhcdjdcpfcaa
open Go.Sl Go.Iso
set_option linter.all false

def badRR (os : List RO) (roots : List Int) : Bool := roots.any fun r => decide (r ≠ 0) && !inR os r
theorem st_inV {β : Bs} {F : SP} {L M : List SP} {X : World → Prop} {ib : Src} {m : Nat} {v : Value} {l : List Value} (r : Rem (inA ib m v l) L M) (k : ∀ p c, v = .slice p m c → St β F L X) : St β F L X := by
  intro w h
  have h3 : sep (inA ib m v l :: F :: M) (hp w) := star_left (h.perm r.perm).heap
  obtain ⟨g1, g2, d, e, hh, y⟩ := h3
  rcases hh with ⟨c, q0, q1, q2, q3⟩ | ⟨b, off, c, ls, T, fr, q0, q1, q2, q3⟩
  · exact k none c (by rw [q1, q2]) w h
  · exact k _ c q1 w h
section
variable {h : Nat} {R : RS}
theorem r12Lives (k : Int) : C Try.prog 72 [.pointer (some ⟨h, 0, none⟩), .int .i64 k] [rheapA h R] (fun v L' => v = .bool (inR R.os k) ∧ L' = [rheapA h R]) := by
  refine C_enter2 Try.func72 rfl rfl rfl fun β F => ?_
  refine go ?_
  refine call (r11Type k) ?_
  rintro _ _ ⟨x, y, z, rfl, rfl⟩
  by_cases hin : inR R.os k = true
  · rw [if_pos hin, hin]
    refine go ?_
    refine WT_ret (rs := [.tmp 4]) Try.func72 rfl rfl ⟨rfl, rfl⟩
  · rw [if_neg hin, Bool.eq_false_iff.2 hin]
    refine go ?_
    refine WT_ret (rs := [.tmp 4]) Try.func72 rfl rfl ⟨rfl, rfl⟩
/-- The document's marker. -/
abbrev rm3 (m h bt : Nat) (ts : List Int) (lv : Value) (xs : List Int) : List SP := [cel m [.pointer (some ⟨h, 0, none⟩), .slice (some ⟨bt, 0, none⟩) 193 193, lv] 141, cel bt (ts.map encI) 3, ownS 3 1 lv (xs.map encI)]
theorem r12Shade {m bt : Nat} {ts xs : List Int} {lv : Value} (hN : R.os.length = 193) (ht : ts.length = 193) (hx : xs.length ≤ 100000) (k : Int) :
    C Try.prog 73 [.pointer (some ⟨m, 0, none⟩), .int .i64 k] (rm3 m h bt ts lv xs ++ [rheapA h R])
      (fun v L' => ∃ ts' xs' lv', v = .tuple #[] ∧ ts'.length = 193 ∧ xs'.length ≤ xs.length + 1 ∧ L' = rm3 m h bt ts' lv' xs' ++ [rheapA h R]) := by
  generalize hNN : 193 = N at hN ht
  have hN1 : N ≤ 1000 := by omega
  refine C_enter2 Try.func73 rfl rfl rfl fun β F => ?_
  refine st_ownV (T := 3) (sz := 1) (s := lv) (l := xs.map encI) remA fun pv nv cv hv => ?_
  subst hv
  by_cases h0 : k = 0
  · subst h0
    refine go ?_
    refine WT_end (rs := []) Try.func73 rfl rfl ⟨ts, xs, _, rfl, by omega, by omega, rfl⟩
  · refine go ?_
    refine call (r12Lives k) ?_
    rintro _ _ ⟨rfl, rfl⟩
    cases hin : inR R.os k with
    | false =>
      refine go ?_
      refine pickN (As := rm3 m h bt ts (.slice pv nv cv) xs ++ [rheapA h R]) ?_
      refine WT_end (rs := []) Try.func73 rfl rfl ⟨ts, xs, _, rfl, by omega, by omega, rfl⟩
    | true =>
      obtain ⟨h1, h2⟩ : 1 ≤ k ∧ k < (R.os.length : Int) := by
        simp only [inR, Bool.and_eq_true, decide_eq_true_eq] at hin
        exact hin.1
      rw [hN] at h2
      obtain ⟨q, rfl⟩ : ∃ q : Nat, k = (q : Int) := ⟨k.toNat, by omega⟩
      have hqN : q < N := by omega
      have hq193 : q < 193 := by omega
      obtain ⟨y, hy⟩ : ∃ y, ts[q]? = some y := ⟨ts[q]'(by omega), by simp⟩
      have hat := map_at' (f := encI) hy
      by_cases hy0 : y = 0
      · subst hy0
        refine go ?_
        refine WO_storeS (b := bt) (off := 0 + q * 1) (l := ts.map encI) (vs := [encI 1]) rfl rfl rfl rfl (by simp [Value.oneCell']) (by rw [List.length_map]; simp; omega) spl_one updA rfl rfl ?_
        refine go ?_
        refine WO_append1 (s := .slice pv nv cv) (l := xs.map encI) (u := encI (q : Int)) rfl rfl rfl rfl rfl rfl rfl rfl (fun _ => rfl) (by rw [List.length_map]; omega) (by decide) rfl (fun _ => rfl) rfl rfl fun v' b' => ?_
        refine st_ownV .here fun pv' nv' cv' hv' => ?_
        subst hv'
        have eq1 : xs.map encI ++ [encI (q : Int)] = (xs ++ [(q : Int)]).map encI := by rw [List.map_append]; rfl
        rw [eq1]
        refine go ?_
        refine WO_store rfl rfl rfl rfl rfl updA (.succ (.succ .zero)) rfl rfl ?_
        refine go ?_
        refine pickN (As := rm3 m h bt (ts.set q 1) (.slice pv' nv' cv') (xs ++ [(q : Int)]) ++ [rheapA h R]) ?_
        refine WT_end (rs := []) Try.func73 rfl rfl ⟨ts.set q 1, xs ++ [(q : Int)], _, rfl, by rw [List.length_set]; omega, by rw [List.length_append]; simp, rfl⟩
      · refine go ?_
        refine pickN (As := rm3 m h bt ts (.slice pv nv cv) xs ++ [rheapA h R]) ?_
        refine WT_end (rs := []) Try.func73 rfl rfl ⟨ts, xs, _, rfl, by omega, by omega, rfl⟩
theorem r12Begin {ib : Src} {nr : Nat} {v : Value} {roots : List Int} (hN : R.os.length = 193) (hlen : roots.length = nr) (hnr : nr ≤ 1000) :
    C Try.prog 49 [.pointer (some ⟨h, 0, none⟩), v] [rheapA h R, inA ib nr v (roots.map encI)]
      (fun v' L' => (if badRR R.os roots = true then v' = .tuple [.pointer none, .int .i64 3].toArray else ∃ m, v' = .tuple [.pointer (some ⟨m, 0, none⟩), .int .i64 0].toArray) ∧ L' = [rheapA h R, inA ib nr v (roots.map encI)]) := by
  refine C_enter2 Try.func49 rfl rfl rfl fun β F => ?_
  refine st_inV remA fun pv cv hv => ?_
  subst hv
  refine go ?_
  refine WT_keep [6, 0, 1] rfl ?_
  refine WT_loopN nr (fun i => ∀ j r, j < i → roots[j]? = some r → r ≠ 0 → inR R.os r = true) (fun i => [(6, .int .i64 (i : Int)), (0, .pointer (some ⟨h, 0, none⟩)), (1, .slice pv nr cv)]) (fun _ => [rheapA h R, inA ib nr (.slice pv nr cv) (roots.map encI)]) ?_ 0 (Nat.zero_le _) (fun j r hj => absurd hj (Nat.not_lt_zero _))
  intro i hi hin ih
  by_cases hlt : i < nr
  · obtain ⟨r, hr⟩ : ∃ r, roots[i]? = some r := ⟨roots[i], by simp⟩
    refine st_in remA (fun c q0 q1 q2 q3 => absurd hlt (by omega)) (fun b off c ls T fr q0 hvs hls => ?_)
    cases hvs
    subst q0
    have hat : ls[off + i * 1]? = some (encI r) := by
      rw [Nat.mul_one, getElem?_of_take hls (by simp; omega)]
      simp [hr]
    have hnext : (r ≠ 0 → inR R.os r = true) → ∀ j r, j < i + 1 → roots[j]? = some r → r ≠ 0 → inR R.os r = true := fun h1 j r hj hr' h0 => by
      rcases Nat.lt_or_ge j i with h2 | h2
      · exact hin j r h2 hr' h0
      · have : j = i := by omega
        subst this; rw [hr] at hr'; cases hr'; exact h1 h0
    by_cases hr0 : r = 0
    · subst hr0
      refine go ?_
      refine st_fold (A := inA (some (b, .cells ls.toArray T fr)) nr (.slice (some ⟨b, off, none⟩) nr cv) (roots.map encI)) (As := [blk b (.cells ls.toArray T fr)]) remsA (in_mk hls) ?_
      refine WT_keep [6, 0, 1] rfl ?_
      refine pickN (ih hlt (hnext fun h => absurd rfl h))
    · refine go ?_
      refine call (r12Lives r) ?_
      rintro _ _ ⟨rfl, rfl⟩
      cases hi2 : inR R.os r with
      | false =>
        have hbad : badRR R.os roots = true := List.any_eq_true.2 ⟨r, List.mem_of_getElem? hr, by simp [hr0, hi2]⟩
        refine go ?_
        refine st_fold (A := inA (some (b, .cells ls.toArray T fr)) nr (.slice (some ⟨b, off, none⟩) nr cv) (roots.map encI)) (As := [blk b (.cells ls.toArray T fr)]) remsA (in_mk hls) ?_
        refine pickN (As := [rheapA h R, inA (some (b, .cells ls.toArray T fr)) nr (.slice (some ⟨b, off, none⟩) nr cv) (roots.map encI)]) ?_
        refine WT_ret (rs := [.tmp 4, .tmp 5]) Try.func49 rfl rfl (by rw [if_pos hbad]; exact ⟨rfl, rfl⟩)
      | true =>
        refine go ?_
        refine st_fold (A := inA (some (b, .cells ls.toArray T fr)) nr (.slice (some ⟨b, off, none⟩) nr cv) (roots.map encI)) (As := [blk b (.cells ls.toArray T fr)]) remsA (in_mk hls) ?_
        refine WT_keep [6, 0, 1] rfl ?_
        refine pickN (ih hlt (hnext fun _ => hi2))
  · have hin2 : i = nr := by omega
    subst hin2
    have hgood : ¬ badRR R.os roots = true := by
      intro hb
      obtain ⟨r, hr, hb⟩ := List.any_eq_true.1 hb
      obtain ⟨j, hj, hjr⟩ := List.mem_iff_getElem.1 hr
      simp only [Bool.and_eq_true, decide_eq_true_eq, Bool.not_eq_true'] at hb
      have := hin j r (by omega) (by rw [List.getElem?_eq_getElem hj, hjr]) hb.1
      rw [this] at hb
      exact absurd hb.2 (by decide)
    clear ih
    refine go ?_
    refine WO_makeSlice (len := 193) (cap := 193) (l := (List.replicate 193 0).map encI) rfl rfl rfl (Nat.le_refl _) (by rw [if_neg (by omega), make1 rfl]; rw [List.map_replicate]) (by omega) (by decide) rfl rfl rfl fun bt => ?_
    refine go ?_
    refine WO_box rfl rfl rfl rfl rfl rfl fun m => ?_
    refine go ?_
    refine WT_keep [8, 7, 1] rfl ?_
    refine st_fold (A := ownS 3 1 (.slice none 0 0) (([] : List Int).map encI)) (As := []) .nil (fun h _ => own_nil h) ?_
    refine pickN (As := rm3 m h bt (List.replicate 193 0) (.slice none 0 0) [] ++ [rheapA h R, inA ib i (.slice pv i cv) (roots.map encI)]) ?_
    refine WT_loopX i (fun j (x : List Int × List Int × Value) => x.1.length = 193 ∧ x.2.1.length ≤ j) (fun j _ => [(8, .int .i64 (j : Int)), (7, .pointer (some ⟨m, 0, none⟩)), (1, .slice pv i cv)]) (fun _ x => rm3 m h bt x.1 x.2.2 x.2.1 ++ [rheapA h R, inA ib i (.slice pv i cv) (roots.map encI)]) ?_ 0 (List.replicate 193 0, [], .slice none 0 0) (Nat.zero_le _) ⟨List.length_replicate, Nat.zero_le _⟩
    rintro j ⟨ts, xs, lv⟩ hj ⟨hts, hxs⟩ ih
    dsimp only at hts hxs ih ⊢
    by_cases hlt : j < i
    · obtain ⟨r, hr⟩ : ∃ r, roots[j]? = some r := ⟨roots[j], by simp⟩
      refine st_in remA (fun c q0 q1 q2 q3 => absurd hlt (by omega)) (fun b off c ls T fr q0 hvs hls => ?_)
      cases hvs
      subst q0
      have hat : ls[off + j * 1]? = some (encI r) := by
        rw [Nat.mul_one, getElem?_of_take hls (by simp; omega)]
        simp [hr]
      refine go ?_
      refine call (r12Shade (m := m) (bt := bt) (lv := lv) hN hts (show xs.length ≤ 100000 by omega) r) ?_
      rintro _ _ ⟨ts', xs', lv', rfl, hts', hxs', rfl⟩
      refine go ?_
      refine st_fold (A := inA (some (b, .cells ls.toArray T fr)) i (.slice (some ⟨b, off, none⟩) i cv) (roots.map encI)) (As := [blk b (.cells ls.toArray T fr)]) remsA (in_mk hls) ?_
      refine WT_keep [8, 7, 1] rfl ?_
      exact pickN (ih (ts', xs', lv') hlt ⟨hts', by show xs'.length ≤ j + 1; omega⟩)
    · have hji : j = i := by omega
      subst hji
      refine go ?_
      refine pickN (As := [rheapA h R, inA ib j (.slice pv j cv) (roots.map encI)]) ?_
      refine WT_ret (rs := [.tmp 4, .tmp 5]) Try.func49 rfl rfl (by rw [if_neg hgood]; exact ⟨⟨m, rfl⟩, rfl⟩)
end
theorem r13New : C Try.prog 17 [] [] (fun v L' => ∃ u, v = .pointer (some ⟨u, 0, none⟩) ∧ L' = []) := by
  refine C_enter0 Try.func17 rfl rfl rfl fun β F => ?_
  refine go ?_
  refine WO_box rfl rfl rfl rfl rfl rfl fun u => ?_
  refine go ?_
  refine st_drop .here ?_
  refine WT_ret (rs := [.tmp 0]) Try.func17 rfl rfl ⟨u, rfl, rfl⟩
theorem r03Ints {ia ib : Src} {na nb : Nat} {va vb : Value} {xs ys : List Int} (ha : xs.length = na) (hb : ys.length = nb) (hna : na ≤ 1000) :
    C Try.prog 13 [va, vb] [inA ia na va (xs.map encI), inA ib nb vb (ys.map encI)] (fun v L' => v = .bool (decide (xs = ys)) ∧ L' = [inA ia na va (xs.map encI), inA ib nb vb (ys.map encI)]) := by
  refine C_enter2 Try.func13 rfl rfl rfl fun β F => ?_
  refine st_inV .here fun pa ca hva => ?_
  refine st_inV (.there .here) fun pb cb hvb => ?_
  subst hva hvb
  by_cases hn : na = nb
  · subst hn
    refine go ?_
    refine WT_keep [5, 0, 1] rfl ?_
    refine WT_loopN na (fun i => ∀ j, j < i → xs[j]? = ys[j]?) (fun i => [(5, .int .i64 (i : Int)), (0, .slice pa na ca), (1, .slice pb na cb)]) (fun _ => [inA ia na (.slice pa na ca) (xs.map encI), inA ib na (.slice pb na cb) (ys.map encI)]) ?_ 0 (Nat.zero_le _) (fun j hj => absurd hj (Nat.not_lt_zero _))
    intro i hi hall ih
    by_cases hlt : i < na
    · obtain ⟨x, hx⟩ : ∃ x, xs[i]? = some x := ⟨xs[i], by simp⟩
      obtain ⟨y, hy⟩ : ∃ y, ys[i]? = some y := ⟨ys[i], by simp⟩
      refine st_in .here (fun c q0 q1 q2 q3 => absurd hlt (by omega)) (fun b1 off1 c1 ls1 T1 fr1 q1 hv1 hl1 => ?_)
      cases hv1
      subst q1
      refine st_in (.there .here) (fun c q0 q1 q2 q3 => absurd hlt (by omega)) (fun b2 off2 c2 ls2 T2 fr2 q2 hv2 hl2 => ?_)
      cases hv2
      subst q2
      have hat1 : ls1[off1 + i * 1]? = some (encI x) := by
        rw [Nat.mul_one, getElem?_of_take hl1 (by simp; omega)]
        simp [hx]
      have hat2 : ls2[off2 + i * 1]? = some (encI y) := by
        rw [Nat.mul_one, getElem?_of_take hl2 (by simp; omega)]
        simp [hy]
      by_cases hxy : x = y
      · refine go ?_
        refine WT_quiet (by kernel_rfl) ?_
        refine go ?_
        refine st_fold (A := inA (some (b1, .cells ls1.toArray T1 fr1)) na (.slice (some ⟨b1, off1, none⟩) na ca) (xs.map encI)) (As := [blk b1 (.cells ls1.toArray T1 fr1)]) remsA (in_mk hl1) ?_
        refine st_fold (A := inA (some (b2, .cells ls2.toArray T2 fr2)) na (.slice (some ⟨b2, off2, none⟩) na cb) (ys.map encI)) (As := [blk b2 (.cells ls2.toArray T2 fr2)]) remsA (in_mk hl2) ?_
        refine WT_keep [5, 0, 1] rfl ?_
        refine pickN (ih hlt fun j hj => ?_)
        rcases Nat.lt_or_ge j i with h1 | h1
        · exact hall j h1
        · have : j = i := by omega
          subst this; rw [hx, hy, hxy]
      · have hne : ¬ xs = ys := fun h => by rw [h, hy] at hx; cases hx; exact hxy rfl
        rw [decide_eq_false hne]
        refine go ?_
        refine WT_quiet (by kernel_rfl) ?_
        refine go ?_
        refine st_fold (A := inA (some (b1, .cells ls1.toArray T1 fr1)) na (.slice (some ⟨b1, off1, none⟩) na ca) (xs.map encI)) (As := [blk b1 (.cells ls1.toArray T1 fr1)]) remsA (in_mk hl1) ?_
        refine st_fold (A := inA (some (b2, .cells ls2.toArray T2 fr2)) na (.slice (some ⟨b2, off2, none⟩) na cb) (ys.map encI)) (As := [blk b2 (.cells ls2.toArray T2 fr2)]) remsA (in_mk hl2) ?_
        refine pickN (As := [inA (some (b1, .cells ls1.toArray T1 fr1)) na (.slice (some ⟨b1, off1, none⟩) na ca) (xs.map encI), inA (some (b2, .cells ls2.toArray T2 fr2)) na (.slice (some ⟨b2, off2, none⟩) na cb) (ys.map encI)]) ?_
        refine WT_ret (rs := [.tmp 4]) Try.func13 rfl rfl ⟨rfl, rfl⟩
    · have heq : xs = ys := by
        refine List.ext_getElem? fun j => ?_
        rcases Nat.lt_or_ge j i with h1 | h1
        · exact hall j h1
        · rw [List.getElem?_eq_none (by omega), List.getElem?_eq_none (by omega)]
      rw [decide_eq_true heq]
      refine go ?_
      refine WT_ret (rs := [.tmp 4]) Try.func13 rfl rfl ⟨rfl, rfl⟩
  · have hne : ¬ xs = ys := fun h => hn (by rw [← ha, ← hb, h])
    rw [decide_eq_false hne]
    refine go ?_
    refine WT_ret (rs := [.tmp 4]) Try.func13 rfl rfl ⟨rfl, rfl⟩
theorem lawHas {ia : Src} {na : Nat} {va : Value} {xs : List Int} (ha : xs.length = na) (hna : na ≤ 1000) (y : Int) :
    C Try.prog 12 [va, .int .i64 y] [inA ia na va (xs.map encI)] (fun v L' => v = .bool (decide (y ∈ xs)) ∧ L' = [inA ia na va (xs.map encI)]) := by
  refine C_enter2 Try.func12 rfl rfl rfl fun β F => ?_
  refine st_inV .here fun pa ca hva => ?_
  subst hva
  refine go ?_
  refine WT_keep [5, 0, 1] rfl ?_
  refine WT_loopN na (fun i => ∀ j, j < i → xs[j]? ≠ some y) (fun i => [(5, .int .i64 (i : Int)), (0, .slice pa na ca), (1, .int .i64 y)]) (fun _ => [inA ia na (.slice pa na ca) (xs.map encI)]) ?_ 0 (Nat.zero_le _) (fun j hj => absurd hj (Nat.not_lt_zero _))
  intro i hi hall ih
  by_cases hlt : i < na
  · obtain ⟨x, hx⟩ : ∃ x, xs[i]? = some x := ⟨xs[i], by simp⟩
    refine st_in .here (fun c q0 q1 q2 q3 => absurd hlt (by omega)) (fun b1 off1 c1 ls1 T1 fr1 q1 hv1 hl1 => ?_)
    cases hv1
    subst q1
    have hat1 : ls1[off1 + i * 1]? = some (encI x) := by
      rw [Nat.mul_one, getElem?_of_take hl1 (by simp; omega)]
      simp [hx]
    by_cases hxy : x = y
    · have hm : y ∈ xs := hxy ▸ List.mem_of_getElem? hx
      rw [decide_eq_true hm]
      refine go ?_
      refine st_fold (A := inA (some (b1, .cells ls1.toArray T1 fr1)) na (.slice (some ⟨b1, off1, none⟩) na ca) (xs.map encI)) (As := [blk b1 (.cells ls1.toArray T1 fr1)]) remsA (in_mk hl1) ?_
      refine WT_ret (rs := [.tmp 4]) Try.func12 rfl rfl ⟨rfl, rfl⟩
    · refine go ?_
      refine st_fold (A := inA (some (b1, .cells ls1.toArray T1 fr1)) na (.slice (some ⟨b1, off1, none⟩) na ca) (xs.map encI)) (As := [blk b1 (.cells ls1.toArray T1 fr1)]) remsA (in_mk hl1) ?_
      refine WT_keep [5, 0, 1] rfl ?_
      refine ih hlt fun j hj => ?_
      rcases Nat.lt_or_ge j i with h1 | h1
      · exact hall j h1
      · have : j = i := by omega
        subst this; rw [hx]; intro h; exact hxy (Option.some.inj h)
  · have hm : ¬ y ∈ xs := fun h => by
      obtain ⟨j, hj, hjy⟩ := List.mem_iff_getElem.1 h
      exact hall j (by omega) (by rw [List.getElem?_eq_getElem hj, hjy])
    rw [decide_eq_false hm]
    refine go ?_
    refine WT_ret (rs := [.tmp 4]) Try.func12 rfl rfl ⟨rfl, rfl⟩
end Go.Proofs.Ytkknhcdjdcpfcaa
