/- Walks of package isochronlaw13: Sane. -/
import Derived.Test.YtkknhcdjdcpfcaaInst
import Derived.Test.YtkknhcdjdcpfcaaXPt
import Derived.Test.YtkknhcdjdcpfcaaWNewObj
import Derived.Test.YtkknhcdjdcpfcaaWR12
import Derived.KernelRfl
import Derived.Test.YtkknhcdjdcpfcaaXSm
namespace Go.Proofs.Ytkknhcdjdcpfcaa
open Go.Sl Go.Iso
set_option linter.all false

theorem heapNewObjectNil {h : Nat} {H : HS} {n c : Nat} {k : Int} (hk : 0 ≤ k ∧ k < 10) (ha : AddOk H n 0) :
    C Try.prog 20 [.pointer (some ⟨h, 0, none⟩), .int .i64 k, .slice none 0 c] [heapA h H] (newR h H n { kind := 2, cls := k, len := 0, refs := [], blocks := [] } []) := by
  refine C_enter3 Try.func20 rfl rfl rfl fun β F => ?_
  refine st_heap .here fun p m ths hs => ?_
  refine go ?_
  refine call (heapNone (p := p) (m := m) (ths := ths)) ?_
  rintro _ _ ⟨rfl, rfl⟩
  refine go ?_
  refine st_toHeap (H := H) (p := p) (m := m) (ths := ths) hs rfl ?_
  refine call (cloneBoolsNil (k := 0) (c := c)) ?_
  rintro v _ ⟨rfl, rfl⟩
  refine go ?_
  refine st_fold (A := ownS 4 1 (.slice none 0 0) (([] : List Bool).map Value.bool)) (As := []) .nil (fun h _ => own_nil h) ?_
  refine call (heapAdd (H := H) (n := n) (X := { kind := 2, cls := k, len := 0, refs := [], blocks := [] }) (rv := .slice none 0 0) rfl ha) ?_
  intro v' L' hR
  cases hA : addS H n { kind := 2, cls := k, len := 0, refs := [], blocks := [] } with
  | none =>
    simp only [hA] at hR
    obtain ⟨rfl, rfl⟩ := hR
    refine go ?_
    refine WT_ret (rs := [.tmp 6, .tmp 7]) Try.func20 rfl rfl (by simp only [newR, hA]; exact ⟨rfl, rfl⟩)
  | some r =>
    obtain ⟨n', H'⟩ := r
    simp only [hA] at hR
    obtain ⟨rfl, rfl⟩ := hR
    refine go ?_
    refine WT_ret (rs := [.tmp 6, .tmp 7]) Try.func20 rfl rfl (by simp only [newR, hA]; exact ⟨rfl, rfl⟩)
def HS0 : HS := { ps := List.replicate 2 freePg, ths := [] }
def thS : Th := { kind := 2, cls := 0, len := 0, refs := [], blocks := [0] }
def HS1 : HS := { ps := [{ cls := 0, used := true :: List.replicate 7 false, cells := 1 :: List.replicate 15 0 }, freePg], ths := [(1, thS)] }
theorem HS_add : addS HS0 1 { kind := 2, cls := 0, len := 0, refs := [], blocks := [] } = some (1, HS1) := by kernel_rfl
def chkS : Bool := match allocsP HS0.ps (sizesP 0) with
  | some (l, q) => decide (l = [0]) && (match q[0]? with
    | some g => decide (g.cls = 0) && g.used.getD 0 false
    | none => false)
  | none => false
theorem HS_ok : AddOk HS0 1 0 where
  pos := by omega
  used := fun j h1 h2 => by omega
  new := rfl
  most := by omega
  small := by omega
  live := by
    intro l q hq k hk
    have hc : chkS = true := by kernel_rfl
    unfold chkS at hc
    rw [hq] at hc
    simp only [Bool.and_eq_true, decide_eq_true_eq] at hc
    obtain ⟨rfl, hc⟩ := hc
    cases hg : q[0]? with
    | none => rw [hg] at hc; cases hc
    | some g =>
      rw [hg] at hc
      simp only [Bool.and_eq_true, decide_eq_true_eq] at hc
      have hk0 : k = 0 := by simpa using hk
      subst hk0
      refine ⟨⟨g, hg, by rw [hc.1]; decide, ?_⟩, by show 0 ≤ 1000; omega⟩
      rw [hc.1]; exact hc.2
theorem HS1_look (k : Int) : lookT HS1.ths k = if k = 1 then some thS else none := rfl
theorem HS1_suc (k : Int) : sucH HS1 k = [] := by
  unfold sucH
  rw [HS1_look]
  by_cases h : k = 1
  · rw [if_pos h]; rfl
  · rw [if_neg h]
theorem HS1_used (k : Int) : usedB HS1 k = decide (k = 1) := by
  unfold usedB
  rw [HS1_look]
  by_cases h : k = 1
  · rw [if_pos h, decide_eq_true h]; rfl
  · rw [if_neg h, decide_eq_false h]; rfl
theorem HS1_gr : GrOk HS1 1 where
  ths := fun k X hX => by
    rw [HS1_look] at hX
    split at hX
    · cases hX
      exact ⟨by decide, fun s hs => absurd hs (Nat.not_lt_zero _), by decide, fun a ha => (by have : a = 0 := by simpa [thS] using ha
                                                                                              omega), by decide, fun _ => rfl, fun s hs => absurd hs (Nat.not_lt_zero _)⟩
    · cases hX
  refs := fun k y hy => by rw [HS1_suc] at hy; cases hy
  dom := fun k hk => by rw [HS1_used] at hk; have := of_decide_eq_true hk; omega
  small := by omega
def entsS : List Ent := [⟨1, 1, 5⟩, ⟨2, 1, 6⟩]
theorem HS1_rch (k : Int) : Rch HS1 (fun k => k = 1) k ↔ k = 1 := by
  constructor
  · intro h
    induction h with
    | root h _ _ => exact h
    | edge _ h _ => rw [HS1_suc] at h; cases h
  · rintro rfl
    exact .root rfl (by rw [HS1_used]; rfl) (by decide)
theorem sane_ctx : Ctx HS1 1 (fun k => k = 1) entsS (fun _ => none) (fun _ => false) (fun k => decide (k = 1)) where
  gr := HS1_gr
  ents := fun e he => by
    simp only [entsS, List.mem_cons, List.not_mem_nil, or_false] at he
    rcases he with rfl | rfl
    · exact ⟨.inl rfl, rfl, by decide⟩
    · exact ⟨.inr (.inl rfl), rfl, by decide⟩
  few := by decide
  lv := fun k => ⟨fun h => (by cases h), fun h => absurd rfl h⟩
  al := fun k => by rw [HS1_rch]; exact decide_eq_true_iff
  roots := fun k h _ _ => .inr ⟨⟨2, 1, 6⟩, by simp [entsS], rfl, h.symm⟩
  fin := fun e he hk => by
    simp only [entsS, List.mem_cons, List.not_mem_nil, or_false] at he
    rcases he with rfl | rfl
    · cases hk
    · rfl
theorem mk_start (H : HS) (Rt ex : Int → Prop) : Mk H Rt ex (fun _ => none) [] := ⟨List.nodup_nil, fun k => ⟨fun h => (by cases h), fun h => (by cases h)⟩, fun k => .inl rfl, fun k h => absurd rfl h, fun k h => by cases h⟩
theorem J_start {H : HS} {N : Nat} {Rt : Int → Prop} {orig : List Ent} {col1 : Col} {lv al : Int → Bool} (c : Ctx H N Rt orig col1 lv al) (m : Mk H Rt (fun _ => False) col1 []) :
    J H Rt orig col1 lv al { ents := orig, queue := [], phase := 1, next := 0, found := none } col1 [] := by
  refine ⟨⟨by show (1 : Int) ≤ 1; decide, by show (1 : Int) ≤ 4; decide⟩, Nat.zero_le _, fun i e he => ?_, rfl, rfl, m, fun _ h => h, fun _ => ⟨rfl, rfl⟩, fun h => absurd h (by show ¬ (1 : Int) = 2; decide), fun h => absurd h (by show ¬ (3 : Int) ≤ 1; decide), fun h => absurd h (by show ¬ (1 : Int) = 4; decide)⟩
  show orig[i]? = some (entJ lv al 1 0 i e)
  have hko := (c.ents e (List.mem_of_getElem? he)).kind
  have : doneB 1 0 i e = false := by
    unfold doneB phK
    rcases hko with h | h | h <;> rw [h] <;> simp
  unfold entJ
  rw [this, he]; simp
/-- Begin and Finish. -/
theorem begin_finish {H : HS} {N : Nat} {Rt : Int → Prop} {orig : List Ent} {col1 : Col} {lv al : Int → Bool} (c : Ctx H N Rt orig col1 lv al) (m : Mk H Rt (fun _ => False) col1 []) :
    ∃ S1 n S' col' l', Settles true (whiteP H col1) { ents := orig, queue := [], phase := 1, next := 0, found := none } S1 ∧ TsOk S1 ∧ Fins H S1 col1 [] n S' col' l' ∧ n ≤ 100000 ∧ Left orig lv al S' := by
  obtain ⟨S1, hs, j1, _, _⟩ := settles_ex c _ (Nat.le_refl _) (J_start c m)
  obtain ⟨n, S', col', l', hn, hF, hL⟩ := fins_ex c _ (Nat.le_refl _) j1
  have := Ms_le c S1 col1
  have := j1.ph
  exact ⟨S1, n, S', col', l', by simpa using hs, j1.ok c, hF, by omega, hL⟩
end Go.Proofs.Ytkknhcdjdcpfcaa
namespace Go.Proofs.Ytkknhcdjdcpfcaa
open Go.Sl Go.Iso
set_option linter.all false

def emptyS : TS := { ents := [], queue := [], phase := 0, next := 0, found := none }
theorem sane_add1 : addT emptyS HS1 1 1 5 = (0, 0, { emptyS with ents := [⟨1, 1, 5⟩] }) := by kernel_rfl
theorem sane_add2 : addT { emptyS with ents := [⟨1, 1, 5⟩] } HS1 2 1 6 = (1, 0, { emptyS with ents := entsS }) := by kernel_rfl
set_option maxHeartbeats 4000000 in
theorem lawSane : C Try.prog 15 [] [] (fun v L' => v = .bool true ∧ L' = []) := by
  obtain ⟨S1, n, S', col', l', hS, hok, hF, hn, hL⟩ := begin_finish sane_ctx (mk_start HS1 _ _)
  have hq : S'.queue = [6] := hL.queue
  have he0 : S'.ents[0]? = some ⟨1, 0, 5⟩ := hL.ents 0 ⟨1, 1, 5⟩ rfl
  refine C_enter0 Try.func15 rfl rfl rfl fun β F => ?_
  refine go ?_
  refine call (heapNew (n := 2) (by omega)) ?_
  rintro _ _ ⟨h, rfl, rfl⟩
  refine go ?_
  refine call (heapNewObjectNil (h := h) (H := HS0) (n := 1) (k := 0) ⟨by decide, by decide⟩ HS_ok) ?_
  intro v' L' hR
  unfold newR at hR
  rw [HS_add] at hR
  obtain ⟨rfl, rfl⟩ := hR
  refine go ?_
  have hb0 : ¬ badR HS1 [] = true := by simp [badR]
  refine st_fold (A := inA none 0 (.slice none 0 0) (([] : List Int).map encI)) (As := []) .nil (fun h _ => in_nil h) ?_
  refine call (markBegin (h := h) (n := 0) (H := HS1) (v := .slice none 0 0) (xs := []) (ib := none) rfl (by omega)) ?_
  intro v' L' hR
  rw [if_neg hb0] at hR
  obtain ⟨m, rfl, rfl⟩ := hR
  refine go ?_
  refine call tabNew ?_
  rintro _ _ ⟨t, rfl, rfl⟩
  refine go ?_
  refine call (tabAdd (t := t) (m := m) (h := h) (S := emptyS) (H := HS1) (col := fun _ => none) (l := []) (kind := 1) (target := 1) (tag := 5) (by decide)) ?_
  rintro _ _ ⟨rfl, rfl⟩
  rw [sane_add1]
  refine go ?_
  refine call (tabAdd (t := t) (m := m) (h := h) (S := { emptyS with ents := [⟨1, 1, 5⟩] }) (H := HS1) (col := fun _ => none) (l := []) (kind := 2) (target := 1) (tag := 6) (by decide)) ?_
  rintro _ _ ⟨rfl, rfl⟩
  rw [sane_add2]
  refine go ?_
  refine call (tabBegin (t := t) (m := m) (h := h) (H := HS1) (S := { emptyS with ents := entsS }) (col := fun _ => none) rfl (by decide) hS) ?_
  rintro _ _ ⟨rfl, rfl⟩
  refine go ?_
  refine call (tabFinish (t := t) (m := m) (h := h) hok hF hn) ?_
  rintro _ _ ⟨rfl, rfl⟩
  refine go ?_
  refine call (tabTarget (t := t) (i := 0) he0 (by rw [hL.len]; decide)) ?_
  rintro _ _ ⟨rfl, rfl⟩
  refine go ?_
  refine call (tabQueue (t := t) (S := S') (by rw [hq]; decide)) ?_
  rintro qv _ rfl
  rw [hq]
  refine st_ownV (T := 3) (sz := 1) (s := qv) (l := [6].map encI) remA fun pq nq cq hqv => ?_
  subst hqv
  refine go ?_
  refine WO_build1 rfl rfl rfl rfl rfl rfl rfl fun lb => ?_
  refine go ?_
  refine st_ownIn (T := 3) (sz := 1) (v := .slice pq nq cq) (l := [6].map encI) (n := 1) remA rfl (by decide) fun ib => ?_
  refine st_fold (A := inA (some (lb, .cells ([encI 6] : List Value).toArray 3 (0, 0))) 1 (.slice (some ⟨lb, 0, none⟩) 1 1) ([6].map encI)) (As := [cel lb [encI 6] 3]) remsA (in_mk rfl) ?_
  refine call (r03Ints (ia := ib) (ib := some (lb, .cells ([encI 6] : List Value).toArray 3 (0, 0))) (na := 1) (nb := 1) (va := .slice pq nq cq) (vb := .slice (some ⟨lb, 0, none⟩) 1 1) (xs := [6]) (ys := [6]) rfl rfl (by decide)) ?_
  rintro _ _ ⟨rfl, rfl⟩
  rw [decide_eq_true (rfl : ([6] : List Int) = [6])]
  refine go ?_
  refine pickN (As := []) ?_
  refine WT_ret (rs := [.tmp 0]) Try.func15 rfl rfl ⟨rfl, rfl⟩
end Go.Proofs.Ytkknhcdjdcpfcaa
