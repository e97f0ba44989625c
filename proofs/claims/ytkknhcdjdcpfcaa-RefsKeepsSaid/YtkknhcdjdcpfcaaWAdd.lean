/- Walks of package object: New, NewObject. -/
import Derived.Test.YtkknhcdjdcpfcaaInst
import Derived.Test.YtkknhcdjdcpfcaaWObj3
import Derived.Test.YtkknhcdjdcpfcaaXSm
namespace Go.Proofs.Ytkknhcdjdcpfcaa
open Go.Sl Go.Iso
set_option linter.all false

theorem lookV_nil : lookV [] = fun _ => none := rfl
theorem heapNew {n : Nat} (h0 : 0 < n ∧ n ≤ 24) : C Try.prog 18 [.int .i64 (n : Int)] []
    (fun v L' => ∃ h, v = .tuple [.pointer (some ⟨h, 0, none⟩), .int .i64 0].toArray ∧ L' = [heapA h { ps := List.replicate n freePg, ths := [] }]) := by
  refine C_enter1 Try.func18 rfl rfl rfl fun β F => ?_
  refine go ?_
  refine call (poolNew h0) ?_
  rintro _ _ ⟨p, rfl, rfl⟩
  refine go ?_
  refine WO_makeMap rfl rfl rfl rfl fun m => ?_
  refine go ?_
  refine WO_box rfl rfl rfl rfl rfl rfl fun h => ?_
  refine go ?_
  refine st_fold (A := mapA m (lookV [])) (As := [blk m (.map #[] 0)]) (.cons (.there .here) .nil) (fun k s => ⟨#[], 0, sep_get (List.mem_cons_self ..) s, ⟨by simp, by simp, by simp, by simp⟩, fun _ => rfl⟩) ?_
  refine st_fold (A := thsA []) (As := []) .nil (fun k s => trivial) ?_
  refine st_toHeap (H := { ps := List.replicate n freePg, ths := [] }) (p := p) (m := m) (ths := []) rfl rfl ?_
  refine WT_ret (rs := [.tmp 2, .tmp 3]) Try.func18 rfl rfl ⟨h, rfl, rfl⟩

/-- Blocks for these classes. -/
def allocsP : List Pg → List Int → Option (List Nat × List Pg)
  | ps, [] => some ([], ps)
  | ps, k :: r => match allocP ps k with
    | none => none
    | some (a, ps') => match allocsP ps' r with
      | none => none
      | some (l, q) => some (a :: l, q)
theorem allocsP_snoc {k : Int} : ∀ {ps : List Pg} {r : List Int} {l : List Nat} {q : List Pg}, allocsP ps r = some (l, q) →
    allocsP ps (r ++ [k]) = match allocP q k with | none => none | some (a, q') => some (l ++ [a], q')
  | ps, [], l, q, h => by
    simp only [allocsP, Option.some.injEq, Prod.mk.injEq] at h
    obtain ⟨rfl, rfl⟩ := h
    simp only [List.nil_append, allocsP]
  | ps, j :: r, l, q, h => by
    simp only [allocsP] at h
    split at h
    · cases h
    · rename_i a ps' ha
      split at h
      · cases h
      · rename_i l' q' hl
        simp only [Option.some.injEq, Prod.mk.injEq] at h
        obtain ⟨rfl, rfl⟩ := h
        simp only [List.cons_append, allocsP, ha, allocsP_snoc hl]
        cases allocP q' k with
        | none => rfl
        | some x => rfl
theorem allocsP_stop {ps : List Pg} : ∀ {r s : List Int}, allocsP ps r = none → allocsP ps (r ++ s) = none := by
  intro r
  induction r generalizing ps with
  | nil => intro s h; cases h
  | cons j r ih =>
    intro s h
    simp only [allocsP] at h
    simp only [List.cons_append, allocsP]
    split
    · rfl
    · rename_i a ps' ha
      simp only [ha] at h
      have : allocsP ps' r = none := by
        split at h
        · assumption
        · cases h
      rw [ih this]
theorem allocsP_length : ∀ {ps : List Pg} {r : List Int} {l : List Nat} {q : List Pg}, allocsP ps r = some (l, q) → l.length = r.length
  | ps, [], l, q, h => by simp only [allocsP, Option.some.injEq, Prod.mk.injEq] at h; rw [← h.1]; rfl
  | ps, j :: r, l, q, h => by
    simp only [allocsP] at h
    split at h
    · cases h
    · split at h
      · cases h
      · rename_i l' q' hl
        simp only [Option.some.injEq, Prod.mk.injEq] at h
        rw [← h.1, List.length_cons, allocsP_length hl, List.length_cons]
def fitN (n : Nat) : Int := if n ≤ 2 then 0 else if n ≤ 4 then 1 else 2
def sizesP (len : Nat) : List Int := fitN (1 + len) :: if len > 7 then List.replicate ((len + 7) / 8) 2 else []
theorem sizesP_length (len : Nat) (h : len ≤ 48) : (sizesP len).length ≤ 7 := by
  simp only [sizesP, List.length_cons]
  split <;> simp <;> omega
theorem sizesP_ok (len : Nat) : ∀ k ∈ sizesP len, k = 0 ∨ k = 1 ∨ k = 2 := by
  intro k hk
  simp only [sizesP, List.mem_cons] at hk
  rcases hk with rfl | hk
  · unfold fitN; split
    · exact .inl rfl
    · split
      · exact .inr (.inl rfl)
      · exact .inr (.inr rfl)
  · split at hk
    · exact .inr (.inr (List.eq_of_mem_replicate hk))
    · cases hk
/-- The links to the leaves. -/
def linkP : List Pg → Nat → List Nat → List Pg
  | ps, _, [] => ps
  | ps, a, b :: r => linkP (setP ps a b) (a + 1) r
theorem linkP_snoc {b : Nat} : ∀ (r : List Nat) (ps : List Pg) (a : Nat), linkP ps a (r ++ [b]) = setP (linkP ps a r) (a + r.length) b
  | [], ps, a => rfl
  | x :: r, ps, a => by
    simp only [List.cons_append, linkP, linkP_snoc r, List.length_cons]
    rw [show a + 1 + r.length = a + (r.length + 1) by omega]
theorem live_setP {ps : List Pg} {a b : Nat} {x : Int} (h : Live ps b) : Live (setP ps a x) b := by
  obtain ⟨q, h⟩ := h
  obtain ⟨hlt, hq⟩ := List.getElem?_eq_some_iff.1 h.page
  by_cases hab : a / 16 = b / 16
  · refine ⟨{ q with cells := q.cells.set (a % 16) x }, ?_, h.cls, h.used⟩
    have : ps.getD (a / 16) default = q := by rw [hab]; exact h.getD
    rw [setP, this, setCellP, hab]
    simp [hlt]
  · refine ⟨q, ?_, h.cls, h.used⟩
    rw [setP, setCellP, List.getElem?_set_ne hab]
    exact h.page
theorem live_linkP {b : Nat} : ∀ {r : List Nat} {ps : List Pg} {a : Nat}, Live ps b → Live (linkP ps a r) b
  | [], _, _, h => h
  | _ :: r, _, _, h => by simp only [linkP]; exact live_linkP (r := r) (live_setP h)
theorem lookV_snoc {ths : Ths} {i t : Nat} {X : Th} (h : look ths (i : Int) = none) : mset (lookV ths) (i : Int) (.pointer (some ⟨t, 0, none⟩)) = lookV (ths ++ [(i, t, X)]) := by
  funext k
  simp only [mset, lookV]
  have key : ∀ {l : Ths}, look l (i : Int) = none → look (l ++ [(i, t, X)]) k = if k = (i : Int) then some (t, X) else look l k := by
    intro l
    induction l with
    | nil => intro _; simp [look]
    | cons x l ih =>
      obtain ⟨j, t', X'⟩ := x
      intro hn
      simp only [look] at hn
      split at hn
      · cases hn
      · rename_i hne
        simp only [List.cons_append, look, ih hn]
        by_cases h1 : k = (i : Int)
        · subst h1; simp [hne]
        · simp [h1]
  rw [key h]
  by_cases h1 : k = (i : Int) <;> simp [h1]
theorem thsA_snoc {ths : Ths} {i t : Nat} {X : Th} {h : Hp} (s : sep [thsA ths, thingA t X] h) : thsA (ths ++ [(i, t, X)]) h := by
  simp only [thsA, List.map_append, List.map_cons, List.map_nil]
  exact append_sep s
structure AddOk (H : HS) (n : Nat) (len : Nat) : Prop where
  pos : 1 ≤ n
  used : ∀ i : Nat, 1 ≤ i → i < n → lookT H.ths (i : Int) ≠ none
  new : lookT H.ths (n : Int) = none
  most : len ≤ 48
  small : n ≤ 1000
  live : ∀ l q, allocsP H.ps (sizesP len) = some (l, q) → ∀ k, k < l.length → Live q (l.getD 0 0 + k) ∧ l.getD 0 0 ≤ 1000
def addS (H : HS) (n : Nat) (X : Th) : Option (Nat × HS) :=
  if 192 < n then none else match allocsP H.ps (sizesP X.len) with
    | none => none
    | some (l, q) => some (n, { ps := linkP (setP q (l.getD 0 0) (n : Int)) (l.getD 0 0 + 1) (l.drop 1), ths := H.ths ++ [(n, { X with blocks := l })] })
theorem fitC {n : Nat} (h : n ≤ 100) : C Try.prog 63 [.int .i64 (n : Int)] [] (fun v L' => v = .int .i64 (fitN n) ∧ L' = []) := fitAny h
set_option maxHeartbeats 4000000 in
theorem heapAdd {h : Nat} {H : HS} {n : Nat} {X : Th} {rv : Value} (hX : X.blocks = []) (ha : AddOk H n X.len) : C Try.prog 40 [.pointer (some ⟨h, 0, none⟩), .agg [.int .i64 X.kind, .int .i64 X.cls, .int .i64 (X.len : Int), rv, .slice none 0 0].toArray]
    [heapA h H, ownS 4 1 rv (X.refs.map Value.bool)]
    (fun v L' => match addS H n X with
      | none => v = .tuple [.int .i64 0, .int .i64 14].toArray ∧ L' = [heapA h H]
      | some (n, H') => v = .tuple [.int .i64 (n : Int), .int .i64 0].toArray ∧ L' = [heapA h H']) := by
  have h48 := ha.most
  have hn1 := ha.small
  refine C_enter2 Try.func40 rfl rfl rfl fun β F => ?_
  refine go ?_
  refine WO_box (l := [.int .i64 X.kind, .int .i64 X.cls, .int .i64 (X.len : Int), rv, .slice none 0 0]) rfl rfl rfl rfl rfl rfl fun t => ?_
  refine st_heap (.there .here) fun p m ths hs => ?_
  refine go ?_
  refine WT_keep [6, 5, 4, 3, 0] rfl ?_
  refine WT_loopN n (fun i => 1 ≤ i) (fun i => [(6, .int .i64 (i : Int)), (5, .int .i64 0), (4, .int .i64 0), (3, .pointer (some ⟨t, 0, none⟩)), (0, .pointer (some ⟨h, 0, none⟩))])
    (fun _ => heap4 h p m H.ps ths ++ [cel t [.int .i64 X.kind, .int .i64 X.cls, .int .i64 (X.len : Int), rv, .slice none 0 0] 104, ownS 4 1 rv (X.refs.map Value.bool)]) ?_ 1 ha.pos (Nat.le_refl _)
  intro i hi h1 ih
  by_cases hlt : i < n
  · obtain ⟨Y, hY⟩ : ∃ Y, lookT H.ths (i : Int) = some Y := Option.ne_none_iff_exists'.1 (ha.used i h1 hlt)
    obtain ⟨ty, hy⟩ := look_some hs hY
    have e : lookV ths (i : Int) = some (.pointer (some ⟨ty, 0, none⟩)) := by simp [lookV, hy]
    refine go ?_
    refine WO_q (q_lookup rfl rfl rfl (.tail _ (.head _))) rfl rfl rfl ?_
    rw [e]
    refine go ?_
    refine WT_keep [6, 5, 4, 3, 0] rfl ?_
    exact ih hlt (by omega)
  have hin : i = n := by omega
  subst hin
  have e : lookV ths (i : Int) = none := by simp [lookV, look_none hs ha.new]
  refine go ?_
  refine WO_q (q_lookup rfl rfl rfl (.tail _ (.head _))) rfl rfl rfl ?_
  rw [e]
  by_cases h192 : 192 < i
  · have es : addS H i X = none := by rw [addS, if_pos h192]
    rw [es]
    refine go ?_
    refine st_toHeap (H := H) (p := p) (m := m) (ths := ths) hs rfl ?_
    refine pick (As := [heapA h H]) ?_
    refine WT_ret (rs := [.tmp 4, .tmp 5]) Try.func40 rfl rfl ⟨rfl, rfl⟩
  refine go ?_
  refine call (fitC (n := 1 + X.len) (by omega)) ?_
  rintro _ _ ⟨rfl, rfl⟩
  refine WO_build1 rfl rfl rfl rfl rfl rfl rfl fun b0 => ?_
  refine st_fold (A := ownS 3 1 (.slice (some ⟨b0, 0, none⟩) 1 1) [.int .i64 (fitN (1 + X.len))]) (.cons .here .nil) (own_mk (l := [.int .i64 (fitN (1 + X.len))]) (sp := []) rfl rfl (Nat.le_refl _)) ?_
  apply join
  · intro fin
    by_cases h7 : 7 < X.len
    · have es : (sizesP X.len).map encI = encI (fitN (1 + X.len)) :: List.replicate ((X.len + 7) / 8) (encI 2) := by simp [sizesP, h7]
      refine go ?_
      refine WT_keep [8, 7, 6, 5, 4, 3, 0] rfl ?_
      refine WT_loopX ((X.len + 7) / 8) (fun _ (_ : Value) => True) (fun j v => [(8, .int .i64 ((8 * j : Nat) : Int)), (7, v), (6, .int .i64 (i : Int)), (5, .int .i64 0), (4, .int .i64 0), (3, .pointer (some ⟨t, 0, none⟩)), (0, .pointer (some ⟨h, 0, none⟩))])
        (fun j v => [ownS 3 1 v (encI (fitN (1 + X.len)) :: List.replicate j (encI 2))] ++ heap4 h p m H.ps ths ++ [cel t [.int .i64 X.kind, .int .i64 X.cls, .int .i64 (X.len : Int), rv, .slice none 0 0] 104, ownS 4 1 rv (X.refs.map Value.bool)]) ?_ 0 _ (Nat.zero_le _) trivial
      intro j v hj _ ih
      by_cases hlt : j < (X.len + 7) / 8
      · have hl8 : 8 * j < X.len := by omega
        refine go ?_
        refine WO_append1 (l := encI (fitN (1 + X.len)) :: List.replicate j (encI 2)) rfl rfl rfl rfl rfl rfl rfl rfl (fun _ => rfl) (by simp; omega) (by decide) rfl (fun _ => rfl) rfl rfl fun v' b => ?_
        refine go ?_
        refine WT_keep [8, 7, 6, 5, 4, 3, 0] rfl ?_
        have e2 : (encI (fitN (1 + X.len)) :: List.replicate j (encI 2)) ++ [encI 2] = encI (fitN (1 + X.len)) :: List.replicate (j + 1) (encI 2) := by rw [List.replicate_succ', List.cons_append]
        have := ih v' (by omega) trivial
        rw [← e2] at this
        exact this
      · have hjn : j = (X.len + 7) / 8 := by omega
        subst hjn
        have hl8 : ¬ 8 * ((X.len + 7) / 8) < X.len := by omega
        refine go ?_
        refine WO_keep [47, 7, 6, 5, 4, 3, 0] rfl ?_
        rw [← es]
        exact fin v
    · have es : (sizesP X.len).map encI = [encI (fitN (1 + X.len))] := by simp [sizesP, h7]
      refine go ?_
      refine WO_keep [47, 7, 6, 5, 4, 3, 0] rfl ?_
      rw [← es]
      refine pick (As := [ownS 3 1 _ ((sizesP X.len).map encI)] ++ heap4 h p m H.ps ths ++ [cel t [.int .i64 X.kind, .int .i64 X.cls, .int .i64 (X.len : Int), rv, .slice none 0 0] 104, ownS 4 1 rv (X.refs.map Value.bool)]) ?_
      exact fin _
  intro v
  refine call (poolCopy (ps := H.ps)) ?_
  rintro _ _ ⟨p', rfl, rfl⟩
  have hszl := sizesP_length X.len h48
  refine st_own (T := 3) (sz := 1) (l := (sizesP X.len).map encI) (s := v) (by first | exact .here | exact .there .here | exact .there (.there .here) | exact .there (.there (.there .here))) (fun _ h0 => ?_) (fun bz N cz spz hv hl hsp hc => ?_)
  · simp [sizesP] at h0
  subst hv
  have hN : (sizesP X.len).length = N := by simpa using hl
  refine go ?_
  refine WT_keep [51, 50, 49, 9, 6, 5, 4, 3, 0] rfl ?_
  refine st_fold (A := ownS 3 1 (.slice none 0 0) []) .nil (fun h _ => own_nil h) ?_
  refine pickN (As := [cel t [.int .i64 X.kind, .int .i64 X.cls, .int .i64 (X.len : Int), rv, .slice none 0 0] 104, ownS 3 1 (.slice none 0 0) [], poolA p' H.ps, cel bz ((sizesP X.len).map encI ++ spz) 3] ++ heap4 h p m H.ps ths ++ [ownS 4 1 rv (X.refs.map Value.bool)]) ?_
  refine WT_loopX3 N (fun j (bv : Value) l q => allocsP H.ps ((sizesP X.len).take j) = some (l, q))
    (fun j bv l q => [(51, .int .i64 (j : Int)), (50, .int .i64 (N : Int)), (49, .slice (some ⟨bz, 0, none⟩) N cz), (9, .pointer (some ⟨p', 0, none⟩)), (6, .int .i64 (i : Int)), (5, .int .i64 0), (4, .int .i64 0), (3, .pointer (some ⟨t, 0, none⟩)), (0, .pointer (some ⟨h, 0, none⟩))])
    (fun j bv l q => [cel t [.int .i64 X.kind, .int .i64 X.cls, .int .i64 (X.len : Int), rv, bv] 104, ownS 3 1 bv (l.map encN), poolA p' q, cel bz ((sizesP X.len).map encI ++ spz) 3] ++ heap4 h p m H.ps ths ++ [ownS 4 1 rv (X.refs.map Value.bool)]) ?_ 0 (.slice none 0 0) [] H.ps (Nat.zero_le _) rfl
  intro j bv l q hj hall ih
  have hll := allocsP_length hall
  have hN1 : 1 ≤ N := by rw [← hN]; simp [sizesP]
  have hlj : l.length = j := by rw [hll, List.length_take]; omega
  by_cases hlt : j < N
  · obtain ⟨s, hs1⟩ : ∃ s, (sizesP X.len)[j]? = some s := ⟨(sizesP X.len)[j], by simp⟩
    have hat : ((sizesP X.len).map encI ++ spz)[0 + j * 1]? = some (encI s) := by
      rw [Nat.zero_add, Nat.mul_one, List.getElem?_append_left (by simp; omega)]
      simp [hs1]
    have htk : (sizesP X.len).take (j + 1) = (sizesP X.len).take j ++ [s] := by
      rw [List.take_add_one, hs1]; rfl
    have hsn := allocsP_snoc (k := s) hall
    rw [← htk] at hsn
    refine go ?_
    refine call (poolAlloc (ps := q) (k := s) (sizesP_ok X.len s (List.mem_of_getElem? hs1))) ?_
    intro v L' hR
    cases hA : allocP q s with
    | none =>
      simp only [hA] at hR hsn
      obtain ⟨rfl, rfl⟩ := hR
      have hnone : allocsP H.ps (sizesP X.len) = none := by
        have := allocsP_stop (s := (sizesP X.len).drop (j + 1)) hsn
        rwa [List.take_append_drop] at this
      have es : addS H i X = none := by rw [addS, if_neg h192, hnone]
      rw [es]
      refine go ?_
      refine st_toHeap (H := H) (p := p) (m := m) (ths := ths) hs rfl ?_
      refine pick (As := [heapA h H]) ?_
      refine WT_ret (rs := [.tmp 4, .tmp 5]) Try.func40 rfl rfl ⟨rfl, rfl⟩
    | some r =>
      obtain ⟨a, q'⟩ := r
      simp only [hA] at hR hsn
      obtain ⟨rfl, rfl⟩ := hR
      refine go ?_
      refine WO_append1 (l := l.map encN) rfl rfl rfl rfl rfl rfl rfl rfl (fun _ => rfl) (by rw [List.length_map]; omega) (by decide) rfl (fun _ => rfl) rfl rfl fun v' b => ?_
      refine st_ownV .here fun pv nv cv hv' => ?_
      subst hv'
      refine go ?_
      refine WO_store rfl rfl rfl rfl rfl (by first | exact .here | exact .there .here | exact .there (.there .here) | exact .there (.there (.there .here))) (.succ (.succ (.succ (.succ .zero)))) rfl rfl ?_
      refine go ?_
      refine WT_keep [51, 50, 49, 9, 6, 5, 4, 3, 0] rfl ?_
      have := ih (.slice pv nv cv) (l ++ [a]) q' (by omega) hsn
      rw [List.map_append] at this
      exact pickN this
  · have hjn : j = N := by omega
    subst hjn
    have hall2 : allocsP H.ps (sizesP X.len) = some (l, q) := by rwa [List.take_of_length_le (by omega)] at hall
    have es : addS H i X = some (i, { ps := linkP (setP q (l.getD 0 0) (i : Int)) (l.getD 0 0 + 1) (l.drop 1), ths := H.ths ++ [(i, { X with blocks := l })] }) := by rw [addS, if_neg h192, hall2]
    rw [es]
    refine st_own (T := 3) (sz := 1) (l := l.map encN) (s := bv) (by first | exact .here | exact .there .here | exact .there (.there .here) | exact .there (.there (.there .here))) (fun _ h0 => ?_) (fun bb Nb cb spb hv hlb hspb hcb => ?_)
    · have : l = [] := by simpa using h0
      rw [this] at hlj
      simp at hlj; omega
    subst hv
    have hNb : l.length = Nb := by simpa using hlb
    have hbj : Nb = j := by omega
    subst hbj
    have hpos : 0 < l.length := by omega
    have at_ : ∀ k, k < l.length → (l.map encN ++ spb)[k]? = some (encN (l.getD k 0)) := by
      intro k hk
      rw [List.getElem?_append_left (by simpa using hk)]
      simp [hk]
    have at0 : (l.map encN ++ spb)[0 + 0 * 1]? = some (encN (l.getD 0 0)) := at_ 0 hpos
    have hlv := ha.live l q hall2
    have hb0 := (hlv 0 hpos).2
    refine go ?_
    have hlv0 := (hlv 0 hpos).1
    refine call (setCellC (a := l.getD 0 0) (ps := q) hlv0 (i : Int)) ?_
    rintro _ _ ⟨rfl, rfl⟩
    refine go ?_
    obtain ⟨o1, ho1⟩ : ∃ o1, o1 = if cb = 1 then 0 else 0 + 1 * 1 := ⟨_, rfl⟩
    refine WO_q (q_sliceS (l := 1) (h := Nb) rfl rfl rfl rfl (by omega) (by omega) ho1) rfl rfl rfl ?_
    refine go ?_
    refine WT_keep [81, 80, 79, 9, 6, 5, 4, 3, 0] rfl ?_
    refine pickN (As := [poolA p' (linkP (setP q (l.getD 0 0) (i : Int)) (l.getD 0 0 + 1) ((l.drop 1).take 0)), cel bb (l.map encN ++ spb) 3, cel t [.int .i64 X.kind, .int .i64 X.cls, .int .i64 (X.len : Int), rv, .slice (some ⟨bb, 0, none⟩) Nb cb] 104] ++ heap4 h p m H.ps ths ++ [ownS 4 1 rv (X.refs.map Value.bool)]) ?_
    refine WT_loopN (Nb - 1) (fun _ => True) (fun k => [(81, .int .i64 (k : Int)), (80, .int .i64 ((Nb - 1 : Nat) : Int)), (79, .slice (some ⟨bb, o1, none⟩) (Nb - 1) (cb - 1)), (9, .pointer (some ⟨p', 0, none⟩)), (6, .int .i64 (i : Int)), (5, .int .i64 0), (4, .int .i64 0), (3, .pointer (some ⟨t, 0, none⟩)), (0, .pointer (some ⟨h, 0, none⟩))])
      (fun k => [poolA p' (linkP (setP q (l.getD 0 0) (i : Int)) (l.getD 0 0 + 1) ((l.drop 1).take k)), cel bb (l.map encN ++ spb) 3, cel t [.int .i64 X.kind, .int .i64 X.cls, .int .i64 (X.len : Int), rv, .slice (some ⟨bb, 0, none⟩) Nb cb] 104] ++ heap4 h p m H.ps ths ++ [ownS 4 1 rv (X.refs.map Value.bool)]) ?_ 0 (Nat.zero_le _) trivial
    intro k hk _ ih2
    by_cases hkl : k < Nb - 1
    · have ho2 : o1 = 1 := by rw [ho1, if_neg (by omega)]
      have atk : (l.map encN ++ spb)[o1 + k * 1]? = some (encN (l.getD (1 + k) 0)) := by rw [ho2, Nat.mul_one]; exact at_ (1 + k) (by omega)
      have hlvk := live_linkP (r := (l.drop 1).take k) (a := l.getD 0 0 + 1) (live_setP (a := l.getD 0 0) (x := (i : Int)) (hlv (1 + k) (by omega)).1)
      rw [← Nat.add_assoc] at hlvk
      have htk : (l.drop 1).take (k + 1) = (l.drop 1).take k ++ [l.getD (1 + k) 0] := by
        rw [List.take_add_one]
        have : k + 1 < l.length := by omega
        simp [Nat.add_comm 1 k, this]
      have hlen : ((l.drop 1).take k).length = k := by simp; omega
      refine go ?_
      refine call (setCellC hlvk _) ?_
      rintro _ _ ⟨rfl, rfl⟩
      refine go ?_
      refine WT_keep [81, 80, 79, 9, 6, 5, 4, 3, 0] rfl ?_
      have := ih2 (by omega) trivial
      rw [htk, linkP_snoc, hlen] at this
      exact pickN this
    · have hkn : k = Nb - 1 := by omega
      subst hkn
      have htk : (l.drop 1).take (Nb - 1) = l.drop 1 := List.take_of_length_le (by simp; omega)
      rw [htk]
      refine go ?_
      refine WO_store rfl rfl rfl rfl rfl (.there (.there (.there .here))) .zero rfl rfl ?_
      refine go ?_
      refine WO_mapUpdate rfl rfl rfl rfl (.there (.there (.there (.there .here)))) rfl rfl ?_
      rw [lookV_snoc (X := { X with blocks := l }) (look_none hs ha.new)]
      refine go ?_
      subst hNb
      refine st_toThing (X := { X with blocks := l }) (t := t) (rv := rv) (bb := bb) (c := cb) (sp := spb) remsA hcb (by rw [hspb]) ?_
      refine st_fold (A := thsA (ths ++ [(i, t, { X with blocks := l })])) (As := [thsA ths, thingA t { X with blocks := l }]) remsA (fun h s => thsA_snoc s) ?_
      refine st_toHeap (H := { ps := linkP (setP q (l.getD 0 0) (i : Int)) (l.getD 0 0 + 1) (l.drop 1), ths := H.ths ++ [(i, { X with blocks := l })] }) (p := p') (m := m) (ths := ths ++ [(i, t, { X with blocks := l })]) (by simp [strip, ← hs]) rfl ?_
      refine pickN (As := [heapA h _]) ?_
      refine WT_ret (rs := [.tmp 4, .tmp 5]) Try.func40 rfl rfl ⟨rfl, rfl⟩
end Go.Proofs.Ytkknhcdjdcpfcaa
