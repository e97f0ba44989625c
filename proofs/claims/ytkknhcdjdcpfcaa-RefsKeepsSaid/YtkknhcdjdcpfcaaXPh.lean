/- The plain law of the heap and of the reference heap. -/
import Derived.Test.YtkknhcdjdcpfcaaWLaw
import Derived.Test.YtkknhcdjdcpfcaaPMark
import Derived.Test.YtkknhcdjdcpfcaaWNewObj
import Derived.KernelRfl
namespace Go.Proofs.Ytkknhcdjdcpfcaa
open Go.Sl Go.Iso
set_option linter.all false

/-! ### The program's heap -/
def pgB (i j : Nat) : Pg := { cls := if 4 * j < i then 1 else -1, used := (List.range 8).map fun k => decide (k < 4) && decide (4 * j + k < i), cells := (List.range 16).map fun c => if c % 4 = 0 ∧ 4 * j + c / 4 < i then ((4 * j + c / 4 + 1 : Nat) : Int) else 0 }
def thB (m : Nat) : Th := { kind := 2, cls := 0, len := 2, refs := [true, true], blocks := [4 * m] }
def thsB (i : Nat) : List (Nat × Th) := (List.range i).map fun m => (m + 1, thB m)
def HB (i : Nat) : HS := { ps := (List.range 24).map (pgB i), ths := thsB i }
theorem HB0 : HB 0 = { ps := List.replicate 24 freePg, ths := [] } := by kernel_rfl
theorem HB_add (i : Nat) (h : i < 12) : addS (HB i) (i + 1) { kind := 2, cls := 0, len := 2, refs := [true, true], blocks := [] } = some (i + 1, HB (i + 1)) := by
  rcases i with _ | _ | _ | _ | _ | _ | _ | _ | _ | _ | _ | _ | i
  all_goals first | omega | kernel_rfl
theorem lookT_thsB (k : Int) : ∀ i : Nat, lookT (thsB i) k = if 1 ≤ k ∧ k ≤ (i : Int) then some (thB (k - 1).toNat) else none := by
  have app : ∀ (l : List (Nat × Th)) (j : Nat) (X : Th), lookT (l ++ [(j, X)]) k = (match lookT l k with | some Y => some Y | none => if k = (j : Int) then some X else none) := by
    intro l j X
    induction l with
    | nil => simp [lookT]
    | cons y l ih =>
      obtain ⟨a, Y⟩ := y
      simp only [List.cons_append, lookT]
      split
      · rfl
      · exact ih
  intro i
  induction i with
  | zero => rw [if_neg (by omega)]; rfl
  | succ i ih =>
    rw [thsB, List.range_succ, List.map_append, List.map_singleton, app, show (List.range i).map (fun m => (m + 1, thB m)) = thsB i from rfl, ih]
    by_cases h1 : 1 ≤ k ∧ k ≤ (i : Int)
    · rw [if_pos h1, if_pos (show 1 ≤ k ∧ k ≤ ((i + 1 : Nat) : Int) by omega)]
    · rw [if_neg h1]
      by_cases h2 : k = ((i + 1 : Nat) : Int)
      · rw [if_pos h2, if_pos (show 1 ≤ k ∧ k ≤ ((i + 1 : Nat) : Int) by omega), show (k - 1).toNat = i by omega]
      · rw [if_neg h2, if_neg (show ¬ (1 ≤ k ∧ k ≤ ((i + 1 : Nat) : Int)) by omega)]
def chkB (i : Nat) : Bool := match allocsP (HB i).ps (sizesP 2) with
  | some (l, q) => decide (l = [4 * i]) && (match q[(4 * i) / 16]? with
    | some g => decide (g.cls = 1) && g.used.getD ((4 * i) % 16 / 4) false
    | none => false)
  | none => false
theorem chkB_true (i : Nat) (h : i < 12) : chkB i = true := by
  rcases i with _ | _ | _ | _ | _ | _ | _ | _ | _ | _ | _ | _ | i
  all_goals first | omega | kernel_rfl
theorem HB_live (i : Nat) (h : i < 12) : ∀ l q, allocsP (HB i).ps (sizesP 2) = some (l, q) → ∀ k, k < l.length → Live q (l.getD 0 0 + k) ∧ l.getD 0 0 ≤ 1000 := by
  intro l q hq k hk
  have hc := chkB_true i h
  unfold chkB at hc
  rw [hq] at hc
  simp only [Bool.and_eq_true, decide_eq_true_eq] at hc
  obtain ⟨rfl, hc⟩ := hc
  cases hg : q[(4 * i) / 16]? with
  | none => rw [hg] at hc; cases hc
  | some g =>
    rw [hg] at hc
    simp only [Bool.and_eq_true, decide_eq_true_eq] at hc
    have hk0 : k = 0 := by simpa using hk
    subst hk0
    refine ⟨⟨g, hg, by rw [hc.1]; decide, ?_⟩, by show 4 * i ≤ 1000; omega⟩
    rw [hc.1]; exact hc.2
theorem HB_ok (i : Nat) (h : i < 12) : AddOk (HB i) (i + 1) 2 where
  pos := by omega
  used := fun j h1 h2 => by
    show lookT (thsB i) _ ≠ none
    rw [lookT_thsB, if_pos (by omega)]; simp
  new := by
    show lookT (thsB i) _ = none
    rw [lookT_thsB, if_neg (by omega)]
  most := by omega
  small := by omega
  live := HB_live i h

/-! ### The document's heap -/
def oB (m : Nat) (x y : Int) : RO := { kind := 2, cls := 0, refs := [true, true], slots := [x, y], blocks := [4 * m] }
def osB (n : Nat) (sl : Nat → Nat → Int) : List RO := (List.range 193).map fun h => if 1 ≤ h ∧ h ≤ n then oB (h - 1) (sl (h - 1) 0) (sl (h - 1) 1) else zeroRO
def RB (i : Nat) : RS := { n := 24, K := (List.range 24).map fun j => if 4 * j < i then 1 else -1, Lv := (List.range 384).map fun c => decide (c % 4 = 0) && decide (c / 4 < i), os := osB i fun _ _ => 0 }
theorem RB0 : RB 0 = { n := 24, K := List.replicate 24 (-1), Lv := List.replicate (16 * 24) false, os := List.replicate 193 zeroRO } := by kernel_rfl
theorem RB_alloc (i : Nat) (h : i < 12) : allocR (RB i).n (RB i).K (RB i).Lv (classOf 2) = some (4 * i, (RB (i + 1)).K, (RB (i + 1)).Lv) := by
  rcases i with _ | _ | _ | _ | _ | _ | _ | _ | _ | _ | _ | _ | i
  all_goals first | omega | kernel_rfl
theorem RB_os (i : Nat) (h : i < 12) : (RB i).os.set (i + 1) (oB i 0 0) = (RB (i + 1)).os := by
  rcases i with _ | _ | _ | _ | _ | _ | _ | _ | _ | _ | _ | _ | i
  all_goals first | omega | kernel_rfl
theorem osB_len (n : Nat) (sl : Nat → Nat → Int) : (osB n sl).length = 193 := by simp [osB]
theorem osB_get {n : Nat} {sl : Nat → Nat → Int} {h : Nat} (hh : h < 193) : (osB n sl)[h]? = some (if 1 ≤ h ∧ h ≤ n then oB (h - 1) (sl (h - 1) 0) (sl (h - 1) 1) else zeroRO) := by
  simp only [osB, List.getElem?_map, List.getElem?_range hh, Option.map_some]
theorem osB_in {n : Nat} {sl : Nat → Nat → Int} (hn : n ≤ 192) (k : Int) : inR (osB n sl) k = decide (1 ≤ k ∧ k ≤ (n : Int)) := by
  by_cases h : 1 ≤ k ∧ k < 193
  · obtain ⟨m, rfl⟩ : ∃ m : Nat, k = (m : Int) := ⟨k.toNat, by omega⟩
    have hm : m < 193 := by omega
    simp only [inR, osB_len, Int.toNat_natCast, List.getD_eq_getElem?_getD, osB_get hm, Option.getD_some]
    by_cases h2 : 1 ≤ m ∧ m ≤ n
    · rw [if_pos h2, decide_eq_true (show (1 : Int) ≤ m ∧ (m : Int) < ((193 : Nat) : Int) by omega), decide_eq_true (show (1 : Int) ≤ m ∧ (m : Int) ≤ (n : Int) by omega)]
      simp [oB]
    · rw [if_neg h2, decide_eq_false (show ¬ ((1 : Int) ≤ m ∧ (m : Int) ≤ (n : Int)) by omega)]
      simp [zeroRO]
  · simp only [inR, osB_len]
    rw [decide_eq_false (show ¬ (1 ≤ k ∧ k < ((193 : Nat) : Int)) by omega), decide_eq_false (show ¬ (1 ≤ k ∧ k ≤ (n : Int)) by omega)]
    rfl
theorem RB_eq (i : Nat) : (RB i).os = osB i fun _ _ => 0 := rfl
theorem RB_free (i : Nat) (h : i < 12) : FreeAt (RB i).os (i + 1) where
  pos := by omega
  lt := by rw [RB_eq, osB_len]; omega
  used := fun j h1 h2 => by rw [RB_eq, osB_in (by omega)]; exact decide_eq_true (by omega)
  free := by rw [RB_eq, osB_in (by omega)]; exact decide_eq_false (by omega)
theorem osB_ok {n : Nat} {sl : Nat → Nat → Int} (hn : n ≤ 12) : ∀ o ∈ osB n sl, o.kind ≠ 0 → ROOk o := by
  intro o ho hk
  obtain ⟨h, hh, rfl⟩ := List.mem_map.1 ho
  have hh := List.mem_range.1 hh
  split at hk
  · rename_i h2
    rw [if_pos h2]
    refine ⟨by show 0 < 1; decide, by show 1 ≤ 100; decide, fun b hb => ?_, by show 2 ≤ 48; decide, rfl, fun h => absurd h (by show ¬ 1 > 1; decide)⟩
    have : b = 4 * (h - 1) := by simpa [oB] using hb
    omega
  · exact absurd rfl hk
end Go.Proofs.Ytkknhcdjdcpfcaa
namespace Go.Proofs.Ytkknhcdjdcpfcaa
open Go.Sl Go.Iso
set_option linter.all false

structure PH (n : Nat) (sl : Nat → Nat → Int) (H : HS) : Prop where
  ths : H.ths = thsB n
  cells : ∀ q ∈ H.ps, q.cells.length = 16
  live : ∀ m s, m < n → s < 2 → Live H.ps (4 * m + 1 + s)
  val : ∀ m s, m < n → s < 2 → cellP H.ps (4 * m + 1 + s) = sl m s
theorem getD_range {α : Type} {f : Nat → α} {n k : Nat} {d : α} (h : k < n) : ((List.range n).map f).getD k d = f k := by
  simp [h]
theorem PH_base (n : Nat) (hn : n ≤ 12) : PH n (fun _ _ => 0) (HB n) where
  ths := rfl
  cells := fun q hq => by
    obtain ⟨j, _, rfl⟩ := List.mem_map.1 hq
    simp [pgB]
  live := fun m s hm hs => by
    have e1 : (4 * m + 1 + s) / 16 = m / 4 := by omega
    have e2 : (4 * m + 1 + s) % 16 / 4 = m % 4 := by omega
    have hcl : (pgB n (m / 4)).cls = 1 := if_pos (by omega)
    refine ⟨pgB n (m / 4), ?_, by rw [hcl]; decide, ?_⟩
    · show ((List.range 24).map (pgB n))[_]? = _
      rw [e1, List.getElem?_map, List.getElem?_range (by omega)]; rfl
    · rw [hcl, show sizeN 1 = 4 from rfl, e2]
      simp only [pgB]
      rw [getD_range (by omega), decide_eq_true (show m % 4 < 4 by omega), decide_eq_true (show 4 * (m / 4) + m % 4 < n by omega)]; rfl
  val := fun m s hm hs => by
    have e1 : (4 * m + 1 + s) / 16 = m / 4 := by omega
    show (((List.range 24).map (pgB n)).getD _ _).cells.getD _ _ = 0
    rw [e1, getD_range (by omega)]
    simp only [pgB]
    rw [getD_range (by omega), if_neg]
    rintro ⟨h1, _⟩
    omega
theorem cellP_setP {ps : List Pg} {a b : Nat} {x : Int} (hc : ∀ q ∈ ps, q.cells.length = 16) (ha : Live ps a) : cellP (setP ps a x) b = if a = b then x else cellP ps b := by
  obtain ⟨q, hq⟩ := ha
  obtain ⟨hlt, hqe⟩ := List.getElem?_eq_some_iff.1 hq.page
  have hg := hq.getD
  have hql := hc q (List.mem_of_getElem? hq.page)
  unfold cellP setP setCellP
  rw [hg]
  by_cases h1 : a / 16 = b / 16
  · rw [← h1]
    have e1 : (ps.set (a / 16) { q with cells := q.cells.set (a % 16) x }).getD (a / 16) default = { q with cells := q.cells.set (a % 16) x } := by simp [hlt]
    rw [e1, hg]
    show (q.cells.set (a % 16) x).getD (b % 16) 0 = _
    by_cases h2 : a % 16 = b % 16
    · rw [if_pos (by omega), ← h2]
      have : a % 16 < q.cells.length := by omega
      simp [this]
    · rw [if_neg (by omega), List.getD_eq_getElem?_getD, List.getElem?_set_ne h2, ← List.getD_eq_getElem?_getD]
  · rw [if_neg (by omega)]
    have e1 : (ps.set (a / 16) { q with cells := q.cells.set (a % 16) x }).getD (b / 16) default = ps.getD (b / 16) default := by
      rw [List.getD_eq_getElem?_getD, List.getElem?_set_ne h1, ← List.getD_eq_getElem?_getD]
    rw [e1]
def upd (sl : Nat → Nat → Int) (m s : Nat) (x : Int) : Nat → Nat → Int := fun a b => if a = m ∧ b = s then x else sl a b
def slOk (n : Nat) (sl : Nat → Nat → Int) : Prop := ∀ m s, m < n → s < 2 → sl m s = 0 ∨ (1 ≤ sl m s ∧ sl m s ≤ (n : Int))
section
variable {n : Nat} {sl : Nat → Nat → Int} {H : HS}
theorem PH.look (h : PH n sl H) (k : Int) : lookT H.ths k = if 1 ≤ k ∧ k ≤ (n : Int) then some (thB (k - 1).toNat) else none := by rw [h.ths, lookT_thsB]
theorem thB_addr (m s : Nat) : cellAddr (thB m) s = 4 * m + 1 + s := rfl
theorem thB_isRef {m s : Nat} (hs : s < 2) : isRefT (thB m) s = true := by
  rcases s with _ | _ | s
  · rfl
  · rfl
  · omega
theorem PH.thOk (h : PH n sl H) (hn : n ≤ 12) : ∀ k X, lookT H.ths k = some X → ThOk H.ps X := by
  intro k X hX
  rw [h.look k] at hX
  split at hX
  · rename_i hk
    simp only [Option.some.injEq] at hX
    subst hX
    have hm : (k - 1).toNat < n := by omega
    exact ⟨by show 0 < 1; decide, fun s _ h => absurd h (by show ¬ 1 > 1; decide), by show 2 ≤ 48; decide, fun a ha => by
      have : a = 4 * (k - 1).toNat := by simpa [thB] using ha
      omega, by show 1 ≤ 1000; decide, fun _ => rfl, fun s hs => h.live _ s hm hs⟩
  · cases hX
theorem PH.used (h : PH n sl H) (k : Int) : usedB H k = decide (1 ≤ k ∧ k ≤ (n : Int)) := by
  unfold usedB
  rw [h.look k]
  by_cases hk : 1 ≤ k ∧ k ≤ (n : Int)
  · rw [if_pos hk, decide_eq_true hk]; rfl
  · rw [if_neg hk, decide_eq_false hk]; rfl
theorem PH.agree (h : PH n sl H) (hn : n ≤ 12) (k : Int) : usedB H k = inR (osB n sl) k := by rw [h.used, osB_in (by omega)]
/-- What an object refers to. -/
def refs2 (sl : Nat → Nat → Int) (m : Nat) : List Int := (if sl m 0 ≠ 0 then [sl m 0] else []) ++ (if sl m 1 ≠ 0 then [sl m 1] else [])
theorem PH.suc (h : PH n sl H) (k : Int) : sucH H k = if 1 ≤ k ∧ k ≤ (n : Int) then refs2 sl (k - 1).toNat else [] := by
  unfold sucH
  rw [h.look k]
  by_cases hk : 1 ≤ k ∧ k ≤ (n : Int)
  · rw [if_pos hk, if_pos hk]
    have hm : (k - 1).toNat < n := by omega
    show refsP H.ps (thB (k - 1).toNat) 2 = _
    simp only [refsP, thB_addr, h.val _ 0 hm (by omega), h.val _ 1 hm (by omega), thB_isRef (show 0 < 2 by omega), thB_isRef (show 1 < 2 by omega), true_and, List.nil_append, refs2]
  · rw [if_neg hk, if_neg hk]
theorem osB_refs (hn : n ≤ 12) (k : Int) : refsO (osB n sl) k = if 1 ≤ k ∧ k ≤ (n : Int) then refs2 sl (k - 1).toNat else [] := by
  unfold refsO
  rw [osB_in (by omega)]
  by_cases hk : 1 ≤ k ∧ k ≤ (n : Int)
  · rw [decide_eq_true hk, if_pos rfl, if_pos hk]
    have hg : (osB n sl).getD k.toNat default = oB (k.toNat - 1) (sl (k.toNat - 1) 0) (sl (k.toNat - 1) 1) := by
      rw [List.getD_eq_getElem?_getD, osB_get (by omega), Option.getD_some, if_pos (by omega)]
    rw [hg, show (k - 1).toNat = k.toNat - 1 by omega]
    show refsRk _ 2 = _
    simp [refsRk, oB, refs2]
  · rw [decide_eq_false hk, if_neg (by decide), if_neg hk]
theorem refs2_mem {sl : Nat → Nat → Int} {m : Nat} {y : Int} (hok : slOk n sl) (hm : m < n) (hy : y ∈ refs2 sl m) : 1 ≤ y ∧ y ≤ (n : Int) := by
  simp only [refs2, List.mem_append] at hy
  rcases hy with hy | hy
  · split at hy
    · rename_i h0
      have := List.mem_singleton.1 hy
      subst this
      rcases hok m 0 hm (by omega) with h | h
      · exact absurd h h0
      · exact h
    · cases hy
  · split at hy
    · rename_i h0
      have := List.mem_singleton.1 hy
      subst this
      rcases hok m 1 hm (by omega) with h | h
      · exact absurd h h0
      · exact h
    · cases hy
theorem osB_closed (hn : n ≤ 12) (hok : slOk n sl) : RClosed (osB n sl) where
  refs := fun x y hy => by
    rw [osB_refs hn] at hy
    split at hy
    · rename_i hx
      rw [osB_in (by omega)]
      exact decide_eq_true (refs2_mem hok (by omega) hy)
    · cases hy
  len := osB_len n sl
theorem PH.gr (h : PH n sl H) (hn : n ≤ 12) (hok : slOk n sl) : GrOk H n where
  ths := h.thOk hn
  refs := fun k y hy => by
    rw [h.suc] at hy
    split at hy
    · rename_i hx
      have := refs2_mem hok (by omega) hy
      rw [h.used]
      exact ⟨decide_eq_true this, by omega⟩
    · cases hy
  dom := fun k hk => by rw [h.used] at hk; exact of_decide_eq_true hk
  small := by omega
/-- A store in both. -/
theorem PH.set (h : PH n sl H) (hn : n ≤ 12) (hok : slOk n sl) {m s : Nat} (hm : m < n) (hs : s < 2) (x : Int) :
    ∃ e H' sl', setS H ((m + 1 : Nat) : Int) (s : Int) x = (e, H') ∧ setR (osB n sl) ((m + 1 : Nat) : Int) (s : Int) x = (e, osB n sl') ∧ PH n sl' H' ∧ slOk n sl' := by
  have hlk : lookT H.ths ((m + 1 : Nat) : Int) = some (thB m) := by
    rw [h.look, if_pos (by omega), show (((m + 1 : Nat) : Int) - 1).toNat = m by omega]
  have hg : (osB n sl).getD (m + 1) default = oB m (sl m 0) (sl m 1) := by
    rw [List.getD_eq_getElem?_getD, osB_get (by omega), Option.getD_some, if_pos (by omega)]; rfl
  have hin : inR (osB n sl) ((m + 1 : Nat) : Int) = true := by rw [osB_in (by omega)]; exact decide_eq_true (by omega)
  have hE : slotE (osB n sl) ((m + 1 : Nat) : Int) (s : Int) = 0 := by
    rw [slotE, if_pos hin, Int.toNat_natCast, hg, if_pos]
    show 0 ≤ (s : Int) ∧ (s : Int) < ((2 : Nat) : Int)
    omega
  have hrf : (oB m (sl m 0) (sl m 1)).refs.getD s false = true := by
    rcases s with _ | _ | s
    · rfl
    · rfl
    · omega
  have e1 : setS H ((m + 1 : Nat) : Int) (s : Int) x = if x ≠ 0 ∧ lookT H.ths x = none then (1, H) else (0, { H with ps := setP H.ps (4 * m + 1 + s) x }) := by
    unfold setS
    rw [hlk]
    dsimp only
    rw [if_neg (by show ¬ ((s : Int) < 0 ∨ ((2 : Nat) : Int) ≤ (s : Int)); omega), Int.toNat_natCast, if_pos (thB_isRef hs), thB_addr]
  have e2 : setR (osB n sl) ((m + 1 : Nat) : Int) (s : Int) x = if x ≠ 0 ∧ inR (osB n sl) x = false then (1, osB n sl) else (0, (osB n sl).set (m + 1) { oB m (sl m 0) (sl m 1) with slots := (oB m (sl m 0) (sl m 1)).slots.set s x }) := by
    rw [setR, if_pos hE]
    simp only [Int.toNat_natCast, hg, hrf, if_true]
  by_cases hbad : x ≠ 0 ∧ ¬ (1 ≤ x ∧ x ≤ (n : Int))
  · refine ⟨1, H, sl, ?_, ?_, h, hok⟩
    · rw [e1, if_pos ⟨hbad.1, by rw [h.look, if_neg hbad.2]⟩]
    · rw [e2, if_pos ⟨hbad.1, by rw [osB_in (by omega)]; exact decide_eq_false hbad.2⟩]
  · have hx : x = 0 ∨ (1 ≤ x ∧ x ≤ (n : Int)) := by
      by_cases h0 : x = 0
      · exact .inl h0
      · exact .inr (Classical.byContradiction fun h1 => hbad ⟨h0, h1⟩)
    refine ⟨0, { H with ps := setP H.ps (4 * m + 1 + s) x }, upd sl m s x, ?_, ?_, ⟨h.ths, fun q hq => ?_, fun m' s' hm' hs' => live_setP (h.live m' s' hm' hs'), fun m' s' hm' hs' => ?_⟩, fun m' s' hm' hs' => ?_⟩
    · rw [e1, if_neg]
      rintro ⟨h1, h2⟩
      rw [h.look] at h2
      split at h2
      · cases h2
      · rename_i h3
        exact hbad ⟨h1, h3⟩
    · rw [e2, if_neg]
      · congr 1
        refine List.ext_getElem? fun j => ?_
        rcases Nat.lt_or_ge j 193 with hj | hj
        · by_cases hjm : m + 1 = j
          · subst hjm
            rw [List.getElem?_set_self (by rw [osB_len]; exact hj), osB_get hj, if_pos (by omega)]
            congr 1
            rcases s with _ | _ | s
            · simp [oB, upd]
            · simp [oB, upd]
            · omega
          · rw [List.getElem?_set_ne hjm, osB_get hj, osB_get hj]
            by_cases hj2 : 1 ≤ j ∧ j ≤ n
            · rw [if_pos hj2, if_pos hj2]
              have hne : ¬ (j - 1 = m) := by omega
              simp [upd, hne]
            · rw [if_neg hj2, if_neg hj2]
        · rw [List.getElem?_eq_none (by rw [List.length_set, osB_len]; exact hj), List.getElem?_eq_none (by rw [osB_len]; exact hj)]
      · rintro ⟨h1, h2⟩
        rw [osB_in (by omega)] at h2
        exact hbad ⟨h1, of_decide_eq_false h2⟩
    · unfold setP setCellP at hq
      rcases List.mem_or_eq_of_mem_set hq with hq | hq
      · exact h.cells q hq
      · rw [hq]
        obtain ⟨g, hg1⟩ := h.live m s hm hs
        show (((H.ps.getD _ default).cells.set _ _).length) = 16
        rw [List.length_set, hg1.getD]
        exact h.cells g (List.mem_of_getElem? hg1.page)
    · rw [cellP_setP h.cells (h.live m s hm hs), h.val m' s' hm' hs']
      unfold upd
      by_cases he : m' = m ∧ s' = s
      · rw [if_pos (by omega), if_pos he]
      · rw [if_neg (by omega), if_neg he]
    · unfold upd
      split
      · exact hx
      · exact hok m' s' hm' hs'
end
end Go.Proofs.Ytkknhcdjdcpfcaa
