/- More rules by which the walks step: slices that grow, regions whose order of evaluation is drawn, frames that lend. -/
import Derived.Test.YtkknhcdjdcpfcaaXSl
import Derived.KernelRfl
namespace Go.Sl
set_option linter.all false
section
variable {P : Program} {f : FuncId} {β : Bs} {F : SP} {L M : List SP} {n : Nat} {R : Value → List SP → Prop} {k : List Item} {E : Env}
/-- A loop that counts up to N, with something beside the count. -/
theorem WT_loopX {α : Type} {c : Code} (N : Nat) (p : Nat → α → Prop) (Ei : Nat → α → Env) (Li : Nat → α → List SP)
    (round : ∀ i x, i ≤ N → p i x → (∀ x', i + 1 ≤ N → p (i + 1) x' → St β F (Li (i + 1) x') (WT P f β F n R (.inLoop c :: k) (Ei (i + 1) x'))) → St β F (Li i x) (WT P f β F n R (.code c :: .inLoop c :: k) (Ei i x))) (i : Nat) (x : α) (hi : i ≤ N) (hp : p i x) :
    St β F (Li i x) (WT P f β F n R (.code (.loop c) :: k) (Ei i x)) :=
  WT_loop (ι := {y : Nat × α // y.1 ≤ N ∧ p y.1 y.2}) (fun y => Ei y.1.1 y.1.2) (fun y => Li y.1.1 y.1.2) (fun y => N - y.1.1)
    (fun y ih => round y.1.1 y.1.2 y.2.1 y.2.2 fun x' h hp' => ih ⟨(y.1.1 + 1, x'), h, hp'⟩ (by show N - (y.1.1 + 1) < N - y.1.1; omega)) ⟨(i, x), hi, hp⟩
/-- A loop with a measure. -/
theorem WT_loopM {α : Type} {c : Code} (m : α → Nat) (p : α → Prop) (Ei : α → Env) (Li : α → List SP)
    (round : ∀ x, p x → (∀ x', m x' < m x → p x' → St β F (Li x') (WT P f β F n R (.inLoop c :: k) (Ei x'))) → St β F (Li x) (WT P f β F n R (.code c :: .inLoop c :: k) (Ei x))) (x : α) (hp : p x) :
    St β F (Li x) (WT P f β F n R (.code (.loop c) :: k) (Ei x)) :=
  WT_loop (ι := {y : α // p y}) (fun y => Ei y.1) (fun y => Li y.1) (fun y => m y.1) (fun y ih => round y.1 y.2 fun x' h hp' => ih ⟨x', hp'⟩ h) ⟨x, hp⟩
end

section
variable {P : Program} {β : Bs} {F : SP} {L M : List SP} {n : Nat} {ops : Array Oper} {rest : List Oper} {E : Env} {K : Env → World → Prop} {o1 o2 : Oper}
/-- A literal of one element. -/
theorem WO_build1 {ts e : TypeId} {y : Operand} {d0 : Nat} {u z : Value} (ho1 : o1.op = .buildSlice ts 1 [(0, y)].toArray) [Und P ts (.slice e)] [hsz : Siz P e 1] [hz : Zer P e z]
    (hg1 : wantedE ops E o1 = some true) (hd1 : o1.dst = some d0) (hn1 : Nat.blt d0 n = true) (hy : ev E y = some u) (hu : u.cells = #[u]) (hz1 : z.cells.size = 1)
    (k : ∀ b, St β F (cel b [u] e :: L) (WO P n ops rest ((d0, .slice (some ⟨b, 0, none⟩) 1 1) :: E) K)) : St β F L (WO P n ops (o1 :: rest) E K) := by
  refine WO_buildSlice (T := ts) (e := e) (sz := 1) (len := 1) (ps := [(0, y)]) (us := [u]) (l := [u]) ho1 (by simp [evs, hy]) (by decide) ?_ (by decide) hg1 hd1 hn1 k
  obtain ⟨a, ha⟩ : ∃ a, z.cells = #[a] := Array.size_eq_one_iff.1 hz1
  have e1 : Array.range 1 = #[0] := rfl
  simp [Instr.fill, hu, ha, e1]
/-- One element is appended: the literal and the append. -/
theorem WO_append1 {ts e : TypeId} {x y : Operand} {d0 d : Nat} {u s z : Value} {i : TypeInfo} {l : List Value} (ho1 : o1.op = .buildSlice ts 1 [(0, y)].toArray)
    (ho2 : o2.op = .call { callee := .builtin .append, args := #[x, .tmp d0], argTypes := #[ts, ts] }) [Und P ts (.slice e)] [hsz : Siz P e 1] [ti : TI P e i] [hz : Zer P e z]
    (hg1 : wantedE ops E o1 = some true) (hd1 : o1.dst = some d0) (hn1 : Nat.blt d0 n = true) (hy : ev E y = some u) (hu : u.cells = #[u]) (h1 : u.oneCell' = true)
    (hx : ∀ b, ev ((d0, .slice (some ⟨b, 0, none⟩) 1 1) :: E) x = some s) (hroom : l.length + 1 ≤ 1073741824) (hby : i.bytes ≤ 1024) (hz1 : z.cells.size = 1)
    (hg2 : ∀ b, wantedE ops ((d0, .slice (some ⟨b, 0, none⟩) 1 1) :: E) o2 = some true) (hd2 : o2.dst = some d) (hn2 : Nat.blt d n = true)
    (k : ∀ v' b, St β F (ownS e 1 v' (l ++ [u]) :: M) (WO P n ops rest ((d, v') :: (d0, .slice (some ⟨b, 0, none⟩) 1 1) :: E) K))
    (r : autoParam (Rems [ownS e 1 s l] L M) pick._auto_1) : St β F L (WO P n ops (o1 :: o2 :: rest) E K) := by
  have hr : ∃ M', Rem (ownS e 1 s l) L M' ∧ M' = M := by
    cases r with
    | cons h1 h2 => cases h2; exact ⟨_, h1, rfl⟩
  obtain ⟨_, hr, rfl⟩ := hr
  refine WO_build1 ho1 hg1 hd1 hn1 hy hu hz1 fun b => ?_
  · have hgt : ev ((d0, .slice (some ⟨b, 0, none⟩) 1 1) :: E) (.tmp d0) = some (.slice (some ⟨b, 0, none⟩) 1 1) := by simp [ev, lk, Nat.beq_refl]
    refine WO_append (news := [u]) (m := 1) ho2 (hx b) hgt (.there hr) (fun h s => .inr ⟨b, 0, 1, [u], e, (0, 0), rfl, sep_get (List.mem_cons_self ..) s, rfl⟩) rfl (by simpa using h1) hz1 (by decide) (by simpa using hroom) hby (hg2 b) hd2 hn2 fun v' => ?_
    exact st_drop (.there .here) (k v' b)
end

section
variable {P : Program} {β : Bs} {F : SP} {L M : List SP} {n : Nat} {E : Env} {o : Oper}
theorem q_sliceS {t e : TypeId} {x : Operand} {lo hi : Option Operand} {b off len cap l h sz off' : Nat} (ho : o.op = .slice t x lo hi none) [Und P t (.slice e)] [z : Siz P e sz]
    (hx : ev E x = some (.slice (some ⟨b, off, none⟩) len cap)) (hl : bnd E 0 l lo) (hh : bnd E len h hi) (h1 : l ≤ h) (h2 : h ≤ cap) (h3 : off' = if cap = l then off else off + l * sz) :
    OpU P β F L n E o (.slice (some ⟨b, off', none⟩) (h - l) (cap - l)) :=
  .val fun a w ha hw => by
    subst h3
    have e1 := bnd_run (P := P) (code := .sliceAcap) ha hh h2 w
    have e2 := bnd_run (P := P) (code := .sliceB) ha hl h1 w
    have e3 : ∀ (p q : Nat), (if p = q then some (⟨b, off, none⟩ : Addr) else some ⟨b, off + l * sz, none⟩) = some ⟨b, if p = q then off else off + l * sz, none⟩ := by intro p q; split <;> rfl
    simp only [execOp, ho, ha.ev hx, Instr.sliceAt, Und.run, Sem.run_bind, Result.andThen_ok, Sem.run_pure, Instr.slice, Instr.sliceBounds, Option.map_none]
    cases hi <;> cases lo <;> simp only [Option.map_none, Option.map_some] at e1 e2 ⊢ <;> simp only [Sem.run_bind, Sem.run_pure, Result.andThen_ok, e1, e2, z.eq, add_off, Option.isSome_none, Bool.false_eq_true, if_false, if_true, Option.map_some] <;>
      (first | (simp only [bnd] at hl hh; subst hl; subst hh; simp [add_off, z.eq, e3]) | (simp only [bnd] at hl; subst hl; simp [add_off, z.eq, e1, e2, e3]) | (simp only [bnd] at hh; subst hh; simp [add_off, z.eq, e1, e2, e3]) | (simp [add_off, e3]) | skip)
end
/-- Two ways that go on alike. -/
theorem join {X : Prop} {α : Type} {Z : α → Prop} (h : (∀ v, Z v) → X) (z : ∀ v, Z v) : X := h z
theorem join2 {X : Prop} {α γ : Type} {Z : α → γ → Prop} (h : (∀ v u, Z v u) → X) (z : ∀ v u, Z v u) : X := h z
theorem WO_keep {P : Program} {β : Bs} {F : SP} {L : List SP} {n : Nat} {ops : Array Oper} {rest : List Oper} {E E' : Env} {K : Env → World → Prop} (l : List Nat) (e : keep E l = E') (h : St β F L (WO P n ops rest E' K)) : St β F L (WO P n ops rest E K) :=
  fun w hw Q hQ a ha => h w hw Q hQ a (ha.weak (e ▸ keep_lk E l))
end Go.Sl
namespace Go.Sl
set_option linter.all false

section
variable {P : Program} {ops : Array Oper} {md : Region.Mode} {Q : Exit → Act → World → Prop}
/-- In this state the operation yields v, whatever the world is. -/
structure Pure (P : Program) (ops : Array Oper) (o : Oper) (v : Value) (a : Act) : Prop where
  wanted : Region.wanted o (yielded ops a.tmps) = true
  run : ∀ w, (execOp a.eval o).run P w = .ok (.value v) w
theorem Pure.keep {oi oj : Oper} {v : Value} {a : Act} (hy : Pure P ops oi v a) (hsi : ∀ cs b, oi.op ≠ .select cs b) (h3 : ∀ d, oj.dst = some d → d ∉ oi.looksAt ops) (u : Value) : Pure P ops oi v (a.put oj.dst u) :=
  ⟨by rw [wanted_put oi a oj.dst u h3]; exact hy.wanted, fun w => by rw [execOp_put oi hsi a oj.dst u h3]; exact hy.run w⟩
theorem wpOp_put {j : Nat} {oi oj : Oper} {v : Value} (hj : ops[j]? = some oj) (hap : oi.apart ops oj = true) (hsi : ∀ cs b, oi.op ≠ .select cs b) (hsj : ∀ cs b, oj.op ≠ .select cs b) (hnd : ∀ e a w, Q e a w → e = .normal) (hL : ¬ LetsOut Q)
    {K : Act → World → Prop} {a : Act} {w : World} (hy : Pure P ops oi v a) (h : wpOp P ops Q j K (a.put oi.dst v) w) :
    wpOp P ops Q j (fun a' w' => Pure P ops oi v a' ∧ K (a'.put oi.dst v) w') a w := by
  obtain ⟨h1, h2, h3⟩ := Oper.apart_spec hap
  unfold wpOp at *
  simp only [hj] at *
  rw [wanted_put oj a oi.dst v h1] at h
  have fin : ∀ u w', K ((a.put oi.dst v).put oj.dst u) w' → Pure P ops oi v (a.put oj.dst u) ∧ K ((a.put oj.dst u).put oi.dst v) w' := fun u w' hk => ⟨hy.keep hsi h3 u, by rw [← Act.put_comm a v u h2]; exact hk⟩
  split
  · rename_i hw
    simp only [hw, if_true] at h
    rcases h with h | h
    · refine .inl ?_
      unfold Oper.wp at *
      rw [execOp_put oj hsj a oi.dst v h1] at h
      generalize (execOp a.eval oj).run P w = r at *
      cases r with
      | ok n w' =>
        cases n <;> simp only [Oper.upon] at h ⊢
        case value u => exact fin u w' h
        case skip => exact fin _ w' h
        case defer d =>
          have e1 : ({ a.put oi.dst v with defers := d :: (a.put oi.dst v).defers } : Act) = ({ a with defers := d :: a.defers } : Act).put oi.dst v := by cases oi.dst <;> rfl
          rw [e1] at h
          have hy' : Pure P ops oi v ({ a with defers := d :: a.defers } : Act) := ⟨hy.wanted, fun w => hy.run w⟩
          exact ⟨hy'.keep hsi h3 undef, by rw [← Act.put_comm _ v undef h2]; exact h⟩
        case enter f args => exact Calls.mono h fun e w'' he => by cases e <;> first | exact fin _ _ he | exact absurd (hnd _ _ _ he) (by simp) | exact absurd he hL
        case row r args => exact Rows.mono h fun u w'' he => fin u w'' he
        all_goals exact h
      | halt x w' => cases x <;> simp only [Oper.upon] at h ⊢ <;> first | exact h | exact absurd (hnd _ _ _ h) (by simp)
    · exact absurd h.2 hL
  · rename_i hw
    simp only [hw] at h
    exact fin _ _ h
theorem wpAny_pull {i : Nat} {oi : Oper} {v : Value} (hi : ops[i]? = some oi) (hsel : ∀ (j : Nat) (o : Oper) cs b, ops[j]? = some o → o.op ≠ .select cs b) (hnd : ∀ e a w, Q e a w → e = .normal) (hL : ¬ LetsOut Q) :
    ∀ (fuel : Nat) (listed : Array Bool) (a : Act) (w : World),
      (∀ j oj, ops[j]? = some oj → j ≠ i → listed.getD j true = false → (∀ e ∈ oj.after, Region.binds md e = true → e.on ≠ i) → oi.apart ops oj = true) →
      i ∈ Region.ready md ops listed → Pure P ops oi v a →
      wpAny P md ops Q fuel (listed.setIfInBounds i true) (a.put oi.dst v) w → wpAny P md ops Q (fuel + 1) listed a w := by
  have here : ∀ (K : Act → World → Prop) (a : Act) (w : World), Pure P ops oi v a → K (a.put oi.dst v) w → wpOp P ops Q i K a w := by
    intro K a w hy hk
    unfold wpOp
    simp only [hi]
    rw [hy.wanted]
    simp only [if_true]
    refine .inl ?_
    unfold Oper.wp
    rw [hy.run w]
    exact hk
  intro fuel
  induction fuel with
  | zero =>
    intro listed a w _ hr hy H
    refine ⟨fun h => (by rw [h] at hr; cases hr), fun j hj => ?_⟩
    by_cases hji : j = i
    · subst hji; exact here _ a w hy H
    · have := ready_mono hj hji
      rw [H.1] at this
      cases this
  | succ fuel ih =>
    intro listed a w hfree hr hy H
    refine ⟨fun h => (by rw [h] at hr; cases hr), fun j hj => ?_⟩
    by_cases hji : j = i
    · subst hji; exact here _ a w hy H
    · have h1 := H.2 j (ready_mono hj hji)
      obtain ⟨hjun, oj, hoj, hall⟩ := mem_ready.1 hj
      have hnot : ∀ e ∈ oj.after, Region.binds md e = true → e.on ≠ i := fun e he hb heq => by
        have h1 := hall e he hb
        have h0 := (mem_ready.1 hr).1
        rw [heq] at h1
        rcases Nat.lt_or_ge i listed.size with h' | h'
        · simp [h'] at h0 h1; rw [h0] at h1; cases h1
        · simp [Array.getElem?_eq_none h'] at h1
      have h2 := wpOp_put hoj (hfree j oj hoj hji hjun hnot) (fun cs b => hsel i oi cs b hi) (fun cs b => hsel j oj cs b hoj) hnd hL hy h1
      have hfree' : ∀ k ok, ops[k]? = some ok → k ≠ i → (listed.setIfInBounds j true).getD k true = false →
          (∀ e ∈ ok.after, Region.binds md e = true → e.on ≠ i) → oi.apart ops ok = true := fun k ok hk hki hun hno => by
        refine hfree k ok hk hki ?_ hno
        by_cases hjk : j = k
        · subst hjk; exact hjun
        · rw [getD_set_ne true hjk] at hun; exact hun
      refine wpOp_mono (fun a' w' h3 => ih (listed.setIfInBounds j true) a' w' hfree' (ready_mono hr (Ne.symm hji)) h3.1 ?_) h2
      rw [Array.setIfInBounds_comm _ _ hji]
      exact h3.2

variable {Cw : World → Prop}
/-- Each operation from p to n is waited for. -/
def sinkP (md : Region.Mode) (ops : Array Oper) (p n : Nat) : Bool := (List.range n).all fun i => decide (i < p) || (List.range (n + 1)).any fun j => decide (i < j) && Region.waitsFor md ops j i
theorem tail_waitsP {p n : Nat} {listed : Array Bool} (hs : sinkP md ops p n = true) (hc : Region.chainB md ops n = true) (hn : n < ops.size) (inv : HeadInv md ops n listed) :
    ∀ (d i : Nat), n - i = d → p ≤ i → i < n → listed.getD i true = false → ∀ t, n ≤ t → t ∉ Region.ready md ops listed := by
  intro d
  induction d using Nat.strongRecOn with
  | _ d ih =>
    intro i hd hpi hi hun t ht hr
    obtain ⟨_, ot, hot, hall⟩ := mem_ready.1 hr
    have htlt : t < ops.size := (Array.getElem?_eq_some_iff.1 hot).1
    by_cases htn : t = n
    · subst htn
      have h1 := List.all_eq_true.1 hs i (List.mem_range.2 hi)
      have hpi' : decide (i < p) = false := by simp; omega
      rw [hpi', Bool.false_or] at h1
      obtain ⟨j, hj, hj2⟩ := List.any_eq_true.1 h1
      simp only [Bool.and_eq_true, decide_eq_true_eq] at hj2
      obtain ⟨oj, hoj, e, he, hb, hon⟩ := Region.waitsFor_spec hj2.2
      have hjle : j ≤ t := by have := List.mem_range.1 hj; omega
      by_cases hjt : j = t
      · subst hjt
        have : oj = ot := Option.some.inj (hoj.symm.trans hot)
        subst this
        have h2 := hall e he hb
        rw [hon, getD_both hun] at h2
        cases h2
      · cases hl : listed.getD j false with
        | true =>
          have h2 := inv.closed j oj hoj hl e he hb
          rw [hon, getD_both hun] at h2
          cases h2
        | false =>
          have hjs : j < listed.size := by rw [inv.size]; omega
          exact ih (t - j) (by omega) j rfl (by omega) (by omega) (getD_in hjs hl) t (Nat.le_refl _) hr
    · have h1 := List.all_eq_true.1 hc t (List.mem_range.2 htlt)
      simp only [Bool.or_eq_true, decide_eq_true_eq] at h1
      rcases h1 with h1 | h1
      · omega
      · obtain ⟨o', ho', e, he, hb, hon⟩ := Region.waitsFor_spec h1
        have : o' = ot := Option.some.inj (ho'.symm.trans hot)
        subst this
        have h2 := hall e he hb
        rw [hon, getD_both (inv.tail (t - 1) (by omega) (by omega))] at h2
        cases h2
theorem anyLQ_firstP {p n i : Nat} {oi : Oper} {v : Value} {Lq : Array Bool → Act → Prop} (hi : ops[i]? = some oi) (hsel : ∀ (j : Nat) (o : Oper) cs b, ops[j]? = some o → o.op ≠ .select cs b)
    (hs : sinkP md ops p n = true) (hc : Region.chainB md ops n = true) (hn : n < ops.size) (hpi : p ≤ i) (hin : i < n)
    (hdone : ∀ listed a, Lq listed a → ∀ j ∈ Region.ready md ops listed, n ≤ j) :
    ∀ (f : Nat) (listed : Array Bool) (a : Act), HeadInv md ops n listed →
      (∀ j oj, ops[j]? = some oj → j ≠ i → listed.getD j true = false → (∀ e ∈ oj.after, Region.binds md e = true → e.on ≠ i) → oi.apart ops oj = true) →
      i ∈ Region.ready md ops listed → YieldsIn P ops Cw oi v a →
      anyLQ P md ops Cw n Lq f (listed.setIfInBounds i true) (a.put oi.dst v) → anyLQ P md ops Cw n Lq (f + 1) listed a := by
  intro f
  induction f with
  | zero =>
    intro listed a inv _ hr hy H
    have hun := (mem_ready.1 hr).1
    refine ⟨fun h => (by rw [h] at hr; cases hr), fun j hj => ?_⟩
    have hjn : j < n := by
      rcases Nat.lt_or_ge j n with h | h
      · exact h
      · exact absurd hj (tail_waitsP hs hc hn inv _ i rfl hpi hin hun j h)
    refine ⟨hjn, ?_⟩
    by_cases hji : j = i
    · subst hji; exact hy.qOp hi H
    · have := hdone _ _ H j (ready_mono hj hji)
      omega
  | succ f ih =>
    intro listed a inv hfree hr hy H
    have hun := (mem_ready.1 hr).1
    refine ⟨fun h => (by rw [h] at hr; cases hr), fun j hj => ?_⟩
    have hjn : j < n := by
      rcases Nat.lt_or_ge j n with h | h
      · exact h
      · exact absurd hj (tail_waitsP hs hc hn inv _ i rfl hpi hin hun j h)
    refine ⟨hjn, ?_⟩
    by_cases hji : j = i
    · subst hji; exact hy.qOp hi H
    · have h1 := (H.2 j (ready_mono hj hji)).2
      obtain ⟨hjun, oj, hoj, hall⟩ := mem_ready.1 hj
      have hnot : ∀ e ∈ oj.after, Region.binds md e = true → e.on ≠ i := fun e he hb heq => by
        have h1 := hall e he hb
        rw [heq, getD_both hun] at h1
        cases h1
      have h2 := qOp_put hoj (hfree j oj hoj hji hjun hnot) (fun cs b => hsel i oi cs b hi) (fun cs b => hsel j oj cs b hoj) hy h1
      have hfree' : ∀ k ok, ops[k]? = some ok → k ≠ i → (listed.setIfInBounds j true).getD k true = false →
          (∀ e ∈ ok.after, Region.binds md e = true → e.on ≠ i) → oi.apart ops ok = true := fun k ok hk hki hun hno => by
        refine hfree k ok hk hki ?_ hno
        by_cases hjk : j = k
        · subst hjk; exact hjun
        · rw [getD_set_ne true hjk] at hun; exact hun
      refine qOp_mono (fun a' h3 => ih (listed.setIfInBounds j true) a' (inv.set hj hjn) hfree' (ready_mono hr (Ne.symm hji)) h3.1 ?_) h2
      rw [Array.setIfInBounds_comm _ _ hji]
      exact h3.2
theorem anyLQ_lexP {p n g : Nat} {Lq : Act → Prop} (hsel : Region.noSelect ops = true) (hs : sinkP md ops p n = true) (hc : Region.chainB md ops n = true) (hn : n < ops.size) :
    ∀ (l : List Oper) (k : Nat) (listed : Array Bool) (a : Act), (∀ j, j < l.length → l[j]? = ops[k + j]?) → p ≤ k → k + l.length = n → HeadInv md ops n listed →
    Region.lexHead md ops g l.length k listed = true → wpQuiet P ops Cw Lq l a →
    anyLQ P md ops Cw n (fun listed' a' => Region.seqB md ops g n listed' = true ∧ Lq a') l.length listed a
  | [], k, listed, a, _, _, hk, _, hB, h => by
    have : k = n := by simpa using hk
    subst this
    exact ⟨by simpa [Region.lexHead] using hB, h⟩
  | o :: l, k, listed, a, hl, hpk, hk, inv, hB, h => by
    have h0 : ops[k]? = some o := by simpa using (hl 0 (by simp)).symm
    simp only [List.length_cons, Region.lexHead, Bool.and_eq_true] at hB
    obtain ⟨⟨hr, hf⟩, hB'⟩ := hB
    have hkn : k < n := by simp only [List.length_cons] at hk; omega
    have hr' : k ∈ Region.ready md ops listed := by simpa using hr
    have hst : qOp P ops Cw k (wpQuiet P ops Cw Lq l) a := by unfold qOp; simp only [h0]; exact h
    obtain ⟨v, hy, hK⟩ := yieldsIn_of_qOp h0 hst
    exact anyLQ_firstP h0 (Region.noSelect_spec hsel) hs hc hn hpk hkn (fun listed' a' hL => seqB_ready hL.1) l.length listed a inv (Region.free_spec h0 hf) hr' hy
      (anyLQ_lexP hsel hs hc hn l (k + 1) _ _ (fun j hj => by have := hl (j + 1) (by simp; omega); simpa [Nat.add_assoc, Nat.add_comm 1 j] using this) (by omega) (by simp only [List.length_cons] at hk; omega) (inv.set hr' hkn) hB' hK)
/-- The first operation is pulled; then some that only look; then the rest in order. -/
def pullB (md : Region.Mode) (ops : Array Oper) (n : Nat) : Bool :=
  Region.noSelect ops && decide (n < ops.size) && sinkP md ops 1 n && Region.chainB md ops n && Region.lexHead md ops (ops.size - n) n 0 (Array.replicate ops.size false)
theorem region_pull_tail {id : Nat} {a : Act} {w : World} {o0 : Oper} {l : List Oper} {v : Value} (n : Nat) (hm : P.follows .mixedOrders = true) (hB : pullB .any (o0 :: l).toArray (n + 1) = true) (hC : Cw { w with drawn := w.drawn + 1 })
    (hnd : ∀ e a w, Q e a w → e = .normal) (hL : ¬ LetsOut Q) (hy : Pure P (o0 :: l).toArray o0 v a)
    (h : wpQuiet P (o0 :: l).toArray Cw (fun a' => ∀ w', Cw w' → wpList P (o0 :: l).toArray Q (l.drop n) a' w') (l.take n) (a.put o0.dst v)) : (Code.region id (o0 :: l).toArray true).wp P Q a w := by
  simp only [pullB, Bool.and_eq_true, decide_eq_true_eq] at hB
  obtain ⟨⟨⟨⟨hsel, hn⟩, hs⟩, hc⟩, hlex⟩ := hB
  have hn' : n < l.length := by simpa using hn
  have htl : (l.take n).length = n := by simp; omega
  have hdl : (l.drop n).length = (o0 :: l).toArray.size - (n + 1) := by simp
  simp only [Region.lexHead, Bool.and_eq_true] at hlex
  obtain ⟨⟨hr, hf⟩, hlex⟩ := hlex
  have hr' : 0 ∈ Region.ready .any (o0 :: l).toArray (Array.replicate (o0 :: l).toArray.size false) := by simpa using hr
  have h0 : (o0 :: l).toArray[0]? = some o0 := by simp
  have inv0 : HeadInv .any (o0 :: l).toArray (n + 1) (Array.replicate (o0 :: l).toArray.size false) :=
    ⟨by simp, fun j oj _ hl => (by rw [getD_replicate_false] at hl; cases hl), fun t _ ht => getD_in (by simpa using ht) (getD_replicate_false _ _)⟩
  have inv1 := inv0.set hr' (Nat.zero_lt_succ n)
  have H := anyLQ_lexP (md := .any) (g := (o0 :: l).toArray.size - (n + 1)) hsel hs hc hn (l.take n) 1 _ (a.put o0.dst v) (fun j hj => by
    have hj' : j < n := by rw [htl] at hj; exact hj
    simp [hj', Nat.add_comm 1 j]) (Nat.le_refl 1) (by rw [htl]; omega) inv1 (by rw [htl]; exact hlex) h
  refine wp_region_any hm ?_
  have := any_of_head (Q' := Q) (g := (o0 :: l).toArray.size - (n + 1)) (fun listed a' w' hw' hL => by
    have := wpAny_of_seq (md := .any) (Q' := Q) (l.drop n) (n + 1) listed a' w' (fun j => by rw [List.getElem?_drop, List.getElem?_toArray, show n + 1 + j = (n + j) + 1 by omega, List.getElem?_cons_succ]) (by rw [hdl]; exact hL.1) (hL.2 w' hw')
    rwa [hdl] at this) _ _ _ _ hC H
  rw [htl] at this
  have hsz : (o0 :: l).toArray.size = (n + ((o0 :: l).toArray.size - (n + 1))) + 1 := by simp; omega
  have h2 := wpAny_pull h0 (Region.noSelect_spec hsel) hnd hL _ _ a _ (Region.free_spec h0 hf) hr' hy this
  rw [← hsz] at h2
  exact h2
end

section
variable {P : Program} {f : FuncId} {β : Bs} {F : SP} {L M : List SP} {n : Nat} {R : Value → List SP → Prop} {k : List Item} {E : Env}
/-- A region whose first operation is a move; then m that only look; then the rest in order. -/
theorem WT_pull {id d : Nat} {o0 : Oper} {l l1 l2 : List Oper} {x : Operand} {v : Value} [wd : Wide P] (m : Nat) (ho : o0.op = .move x) (hg : o0.guard = none) (hd : o0.dst = some d) (hn : Nat.blt d n = true) (hx : ev E x = some v)
    (hB : pullB .any (o0 :: l).toArray (m + 1) = true) (hs : Split m l l1 l2)
    (h : WQ P β F L n (o0 :: l).toArray l1 ((d, v) :: E) (fun E' => St β F L (WO P n (o0 :: l).toArray l2 E' (WT P f β F n R k)))) : St β F L (WT P f β F n R (.code (.region id (o0 :: l).toArray true) :: k) E) := by
  obtain ⟨h1, h2⟩ := hs.eq
  intro w hw b cs a hb hk ha
  have hy : Pure P (o0 :: l).toArray o0 v a := ⟨by simp [Region.wanted, hg], fun w => by simp only [execOp, ho, ha.ev hx, Sem.run_pure]⟩
  have h3 := region_pull_tail (P := P) (Cw := Ok β F L) (id := id) (a := a) (w := w) (Q := fun e a' w' => e = .normal ∧ ∃ E', WT P f β F n R k E' w' ∧ EnvOk n E' a') (o0 := o0) (l := l) (v := v) m wd.eq hB (hw.drawn _)
    (fun e a w h => h.1) (fun ⟨_, _, h, _⟩ => by cases h) hy
    (by
      rw [h1, hd]
      exact h _ (fun E' a' hk' ha' w' hw' => by rw [h2]; exact hk' w' hw' _ (fun E'' w'' a'' x y => ⟨rfl, E'', x, y⟩) a' ha') _ (ha.put (d := some d) hn v))
  obtain ⟨e, a', w', ⟨rfl, E', h4, h5⟩, harr⟩ := h3 b k cs
  exact (h4 b cs a' hb hk h5).steps harr
end
end Go.Sl
namespace Go.Sl
set_option linter.all false

/-- From a world of the class it comes to a world of the class, or to a halt. -/
def Keep (P : Program) (Cw : World → Prop) {α : Type} (m : Sem α) : Prop := ∀ w, Cw w → match m.run P w with
  | .ok _ w' => Cw w'
  | .halt _ _ => True
theorem Keep.of_run {P : Program} {Cw : World → Prop} {α : Type} {m : Sem α} {x : α} (h : ∀ w, m.run P w = .ok x w) : Keep P Cw m := fun w hw => by rw [h w]; exact hw
theorem Keep.pure {P : Program} {Cw : World → Prop} {α : Type} (x : α) : Keep P Cw (Pure.pure x : Sem α) := fun w hw => by rw [Sem.run_pure]; exact hw
theorem Keep.bind {P : Program} {Cw : World → Prop} {α γ : Type} {m : Sem α} {f : α → Sem γ} (h1 : Keep P Cw m) (h2 : ∀ x, Keep P Cw (f x)) : Keep P Cw (m >>= f) := fun w hw => by
  have h := h1 w hw
  rw [Sem.run_bind]
  cases hm : m.run P w with
  | ok x w' => rw [hm] at h; rw [Result.andThen_ok]; exact h2 x w' h
  | halt e w' => simp [Result.andThen]
/-- .. of an operation: it yields a value or nothing. -/
def KeepOp (P : Program) (Cw : World → Prop) (o : Oper) : Prop := ∀ (ev : Operand → Value) w, Cw w → match (execOp ev o).run P w with
  | .ok (.value _) w' => Cw w'
  | .ok .skip w' => Cw w'
  | .ok _ _ => False
  | .halt _ _ => True
theorem KeepOp.val {P : Program} {Cw : World → Prop} {o : Oper} {m : (Operand → Value) → Sem Value} (h : ∀ ev, execOp ev o = do pure (.value (← m ev))) (hk : ∀ ev, Keep P Cw (m ev)) : KeepOp P Cw o := by
  intro ev w hw
  have := hk ev w hw
  rw [h ev, Sem.run_bind]
  cases hm : (m ev).run P w with
  | ok x w' => rw [hm] at this; rw [Result.andThen_ok]; exact this
  | halt e w' => simp [Result.andThen]

section
variable {P : Program} {ops : Array Oper} {md : Region.Mode} {Q : Exit → Act → World → Prop} {Cw : World → Prop}
/-- In this state the operation yields v in every world of the class, and leaves the world. -/
structure PureC (P : Program) (ops : Array Oper) (Cw : World → Prop) (o : Oper) (v : Value) (a : Act) : Prop where
  wanted : Region.wanted o (yielded ops a.tmps) = true
  run : ∀ w, Cw w → (execOp a.eval o).run P w = .ok (.value v) w
theorem PureC.keep {oi oj : Oper} {v : Value} {a : Act} (hy : PureC P ops Cw oi v a) (hsi : ∀ cs b, oi.op ≠ .select cs b) (h3 : ∀ d, oj.dst = some d → d ∉ oi.looksAt ops) (u : Value) : PureC P ops Cw oi v (a.put oj.dst u) :=
  ⟨by rw [wanted_put oi a oj.dst u h3]; exact hy.wanted, fun w hw => by rw [execOp_put oi hsi a oj.dst u h3]; exact hy.run w hw⟩
theorem wpOp_putC {j : Nat} {oi oj : Oper} {v : Value} (hj : ops[j]? = some oj) (hap : oi.apart ops oj = true) (hsi : ∀ cs b, oi.op ≠ .select cs b) (hsj : ∀ cs b, oj.op ≠ .select cs b) (hnd : ∀ e a w, Q e a w → e = .normal) (hL : ¬ LetsOut Q)
    {K : Act → World → Prop} {a : Act} {w : World} (hw : Cw w) (hy : PureC P ops Cw oi v a) (hkp : KeepOp P Cw oj) (h : wpOp P ops Q j K (a.put oi.dst v) w) :
    wpOp P ops Q j (fun a' w' => (PureC P ops Cw oi v a' ∧ Cw w') ∧ K (a'.put oi.dst v) w') a w := by
  obtain ⟨h1, h2, h3⟩ := Oper.apart_spec hap
  unfold wpOp at *
  simp only [hj] at *
  rw [wanted_put oj a oi.dst v h1] at h
  have fin : ∀ u w', Cw w' → K ((a.put oi.dst v).put oj.dst u) w' → (PureC P ops Cw oi v (a.put oj.dst u) ∧ Cw w') ∧ K ((a.put oj.dst u).put oi.dst v) w' := fun u w' hc hk => ⟨⟨hy.keep hsi h3 u, hc⟩, by rw [← Act.put_comm a v u h2]; exact hk⟩
  split
  · rename_i hw1
    simp only [hw1, if_true] at h
    rcases h with h | h
    · refine .inl ?_
      unfold Oper.wp at *
      rw [execOp_put oj hsj a oi.dst v h1] at h
      have hk := hkp a.eval w hw
      generalize (execOp a.eval oj).run P w = r at *
      cases r with
      | ok n w' =>
        cases n <;> simp only [Oper.upon] at h hk ⊢
        case value u => exact fin u w' hk h
        case skip => exact fin _ w' hk h
      | halt x w' => cases x <;> simp only [Oper.upon] at h ⊢ <;> first | exact h | exact absurd (hnd _ _ _ h) (by simp)
    · exact absurd h.2 hL
  · rename_i hw1
    simp only [hw1] at h
    exact fin _ _ hw h
theorem wpAny_pullC {i : Nat} {oi : Oper} {v : Value} (hi : ops[i]? = some oi) (hsel : ∀ (j : Nat) (o : Oper) cs b, ops[j]? = some o → o.op ≠ .select cs b) (hnd : ∀ e a w, Q e a w → e = .normal) (hL : ¬ LetsOut Q) :
    ∀ (fuel : Nat) (listed : Array Bool) (a : Act) (w : World),
      (∀ j oj, ops[j]? = some oj → j ≠ i → listed.getD j true = false → (∀ e ∈ oj.after, Region.binds md e = true → e.on ≠ i) → oi.apart ops oj = true ∧ KeepOp P Cw oj) →
      i ∈ Region.ready md ops listed → Cw w → PureC P ops Cw oi v a →
      wpAny P md ops Q fuel (listed.setIfInBounds i true) (a.put oi.dst v) w → wpAny P md ops Q (fuel + 1) listed a w := by
  have here : ∀ (K : Act → World → Prop) (a : Act) (w : World), Cw w → PureC P ops Cw oi v a → K (a.put oi.dst v) w → wpOp P ops Q i K a w := by
    intro K a w hw hy hk
    unfold wpOp
    simp only [hi]
    rw [hy.wanted]
    simp only [if_true]
    refine .inl ?_
    unfold Oper.wp
    rw [hy.run w hw]
    exact hk
  intro fuel
  induction fuel with
  | zero =>
    intro listed a w _ hr hw hy H
    refine ⟨fun h => (by rw [h] at hr; cases hr), fun j hj => ?_⟩
    by_cases hji : j = i
    · subst hji; exact here _ a w hw hy H
    · have := ready_mono hj hji
      rw [H.1] at this
      cases this
  | succ fuel ih =>
    intro listed a w hfree hr hw hy H
    refine ⟨fun h => (by rw [h] at hr; cases hr), fun j hj => ?_⟩
    by_cases hji : j = i
    · subst hji; exact here _ a w hw hy H
    · have h1 := H.2 j (ready_mono hj hji)
      obtain ⟨hjun, oj, hoj, hall⟩ := mem_ready.1 hj
      have hnot : ∀ e ∈ oj.after, Region.binds md e = true → e.on ≠ i := fun e he hb heq => by
        have h1 := hall e he hb
        have h0 := (mem_ready.1 hr).1
        rw [heq] at h1
        rcases Nat.lt_or_ge i listed.size with h' | h'
        · simp [h'] at h0 h1; rw [h0] at h1; cases h1
        · simp [Array.getElem?_eq_none h'] at h1
      have hfj := hfree j oj hoj hji hjun hnot
      have h2 := wpOp_putC hoj hfj.1 (fun cs b => hsel i oi cs b hi) (fun cs b => hsel j oj cs b hoj) hnd hL hw hy hfj.2 h1
      have hfree' : ∀ k ok, ops[k]? = some ok → k ≠ i → (listed.setIfInBounds j true).getD k true = false →
          (∀ e ∈ ok.after, Region.binds md e = true → e.on ≠ i) → oi.apart ops ok = true ∧ KeepOp P Cw ok := fun k ok hk hki hun hno => by
        refine hfree k ok hk hki ?_ hno
        by_cases hjk : j = k
        · subst hjk; exact hjun
        · rw [getD_set_ne true hjk] at hun; exact hun
      refine wpOp_mono (fun a' w' h3 => ih (listed.setIfInBounds j true) a' w' hfree' (ready_mono hr (Ne.symm hji)) h3.1.2 h3.1.1 ?_) h2
      rw [Array.setIfInBounds_comm _ _ hji]
      exact h3.2

end

section
variable {P : Program} {Cw : World → Prop} {o : Oper}
theorem Keep.stuck {α : Type} (y : String) : Keep P Cw (stuck y : Sem α) := fun w hw => by rw [run_stuck]; trivial
theorem Keep.load (a : Addr) (m : Mode) : Keep P Cw (load a m) := by
  intro w hw
  rw [run_load]
  cases w.cell? a with
  | some v => exact hw
  | none =>
    cases w.farLoad P a (m == .atomic) with
    | ok x => exact hw
    | error e => trivial
theorem keep_load {t : TypeId} {x : Operand} (ho : o.op = .load t x) [Sca P t] : KeepOp P Cw o :=
  KeepOp.val (m := fun ev => Instr.loadAt t (ev x)) (fun ev => by simp only [execOp, ho]) fun ev => by
    unfold Instr.loadAt loadVar
    refine Keep.bind ?_ fun a => ?_
    · unfold Instr.sureAddr
      split
      · exact Keep.pure _
      · exact Keep.stuck _
    · intro w hw
      rw [Sem.run_bind, Sca.run, Result.andThen_ok]
      exact Keep.load _ _ w hw
theorem keep_buildSlice {t e : TypeId} {len sz : Nat} {parts : Array (Nat × Operand)} {z : Value} (ho : o.op = .buildSlice t len parts) [Und P t (.slice e)] [hsz : Siz P e sz] [hz : Zer P e z]
    (hC : ∀ (w : World) (c : Array Value) (T : TypeId), Cw w → Cw { w with heap := w.heap.push (.cells c T (0, 0)) }) : KeepOp P Cw o :=
  KeepOp.val (m := fun ev => Instr.buildSlice t len (parts.map fun (i, x) => (i, ev x))) (fun ev => by simp only [execOp, ho]) fun ev => by
    have row : ∀ c, Keep P Cw (do pure (.slice (some (← newRow e c)) len len) : Sem Value) := fun c w hw => by
      simp only [newRow, Sem.run_bind, Sem.run_pure, Result.andThen_ok, run_newObj]; exact hC _ _ _ hw
    intro w hw
    unfold Instr.buildSlice
    simp only [Sem.run_bind, Und.run, Result.andThen_ok, hsz.eq, Sem.run_pure]
    by_cases h1 : len * sz > 2 ^ 24
    · simp only [h1, if_true]; trivial
    · simp only [h1, if_false]
      by_cases h2 : len * sz = 0
      · simp only [h2, if_true, Sem.run_bind, Sem.run_pure, Result.andThen_ok]
        generalize Instr.fill _ _ _ = r
        cases r with
        | some c => exact row c w hw
        | none => trivial
      · simp only [h2, if_false, Sem.run_bind, Sem.run_pure, Result.andThen_ok, hz.eq]
        generalize Instr.fill _ _ _ = r
        cases r with
        | some c => exact row c w hw
        | none => trivial
end
end Go.Sl
namespace Go.Sl
set_option linter.all false

/-- From here on, whatever order is drawn, K. -/
def WA (P : Program) (n : Nat) (ops : Array Oper) (g : Nat) (listed : Array Bool) (E : Env) (K : Env → World → Prop) (w : World) : Prop :=
  ∀ (Q : Exit → Act → World → Prop), (∀ e a w, Q e a w → e = .normal) → ¬ LetsOut Q → (∀ E' w' a', K E' w' → EnvOk n E' a' → Q .normal a' w') → ∀ a, EnvOk n E a → wpAny P .any ops Q g listed a w

/-- Operations that yield a value, and no call. -/
def valB : Op → Bool
  | .move _ | .assign _ | .nilCheck _ | .fieldAddr .. | .field .. | .load .. | .extract .. | .binOp .. | .unOp .. | .indexAddr .. | .index .. | .makeFunc .. | .slice .. | .buildSlice .. | .makeSlice .. | .box .. | .alloc .. | .build .. => true
  | .call { callee := .builtin .append, .. } | .call { callee := .builtin .len, .. } => true
  | _ => false
def isVal : Result Next → Prop
  | .ok (.value _) _ => True
  | .ok _ _ => False
  | .halt _ _ => True
theorem isVal_bind {P : Program} {w : World} {m : Sem Value} : isVal ((do pure (.value (← m)) : Sem Next).run P w) := by
  rw [Sem.run_bind]
  cases hm : m.run P w with
  | ok x w' => rw [Result.andThen_ok, Sem.run_pure]; trivial
  | halt e w' => simp [Result.andThen, isVal]
theorem valB_spec {P : Program} {o : Oper} (h : valB o.op = true) (ev : Operand → Value) (w : World) : isVal ((execOp ev o).run P w) := by
  cases ho : o.op <;> simp only [ho, valB, Bool.false_eq_true] at h <;> simp only [execOp, ho]
  case nilCheck x =>
    have hb : ∀ {α : Type} {m : Sem α} {f : α → Sem Next}, (∀ x w, isVal ((f x).run P w)) → ∀ w, isVal ((m >>= f).run P w) := by
      intro α m f hf w
      rw [Sem.run_bind]
      cases hm : m.run P w with
      | ok x w' => rw [Result.andThen_ok]; exact hf x w'
      | halt e w' => simp [Result.andThen, isVal]
    have hp : ∀ (v : Value) w, isVal ((pure (.value v) : Sem Next).run P w) := fun v w => by rw [Sem.run_pure]; trivial
    have hr : ∀ w, isVal ((runtimePanic .nilDeref : Sem Next).run P w) := fun w => by simp [runtimePanic, isVal, Sem.run]
    have hu : ∀ c w, isVal ((unsupported c : Sem Next).run P w) := fun c w => by simp [unsupported, isVal, Sem.run]
    split
    · exact hr _
    · exact hr _
    · exact hr _
    · split
      · exact hr _
      · refine hb (fun x w => ?_) _
        refine hb (fun y w => ?_) _
        split
        all_goals first | exact hb (fun _ w => hp _ w) _ | exact hp _ _ | exact hu _ _
      · exact hp _ _
    · exact hp _ _
  case call c =>
    obtain ⟨callee, args, ats⟩ := c
    cases callee with
    | builtin b => cases b <;> simp only [valB, Bool.false_eq_true] at h <;> simp only [resolve, invoke, builtin, Sem.run_bind, Sem.run_pure, Result.andThen_ok] <;> (have := @isVal_bind P w) <;> simp only [Sem.run_bind, Sem.run_pure] at this <;> exact this
    | _ => simp [valB] at h
  all_goals first | exact isVal_bind | (rw [Sem.run_pure]; trivial) | skip

/-- Nothing is drawn from the world's class: every world is of some class. -/
theorem ok_any (w : World) : Ok ⟨w.heap.size, w.os, w.tape, w.output⟩ (fun _ => True) [] w :=
  ⟨rfl, rfl, rfl, Nat.le_refl _, fun b c e fr hb h => by simp [Array.getElem?_eq_none hb] at h, star_true trivial⟩

section
variable {P : Program} {β : Bs} {F : SP} {L M : List SP} {n : Nat} {ops : Array Oper} {g : Nat} {listed : Array Bool} {E : Env} {K : Env → World → Prop} {o : Oper} {v : Value}
theorem OpU.pure {a : Act} (q : ∀ β F, OpU P β F [] n E o v) (hv : valB o.op = true) (ha : EnvOk n E a) : ∀ w, (execOp a.eval o).run P w = .ok (.value v) w := by
  intro w
  have h1 := (q ⟨w.heap.size, w.os, w.tape, w.output⟩ (fun _ => True)).it a w ha (ok_any w)
  have h2 := valB_spec (P := P) hv a.eval w
  generalize (execOp a.eval o).run P w = r at *
  cases r with
  | halt x w' => exact h1.elim
  | ok y w' => cases y <;> simp only [isVal] at h2 <;> simp only [Oper.quietUpon] at h1; obtain ⟨rfl, rfl⟩ := h1; rfl
theorem OpU.pureC {a : Act} (q : OpU P β F L n E o v) (hv : valB o.op = true) (ha : EnvOk n E a) : ∀ w, Ok β F L w → (execOp a.eval o).run P w = .ok (.value v) w := by
  intro w hw
  have h1 := q.it a w ha hw
  have h2 := valB_spec (P := P) hv a.eval w
  generalize (execOp a.eval o).run P w = r at *
  cases r with
  | halt x w' => exact h1.elim
  | ok y w' => cases y <;> simp only [isVal] at h2 <;> simp only [Oper.quietUpon] at h1; obtain ⟨rfl, rfl⟩ := h1; rfl
theorem Ok.push {w : World} {c : Array Value} {T : TypeId} (h : Ok β F L w) : Ok β F L { w with heap := w.heap.push (.cells c T (0, 0)) } :=
  (h.new (o := .cells c T (0, 0)) fun _ _ _ e => by cases e; rfl).map fun _ s => star_drop s
def readyB (ops : Array Oper) (listed : Array Bool) (i : Nat) : Bool := Region.noSelect ops && Region.free .any ops listed i && (Region.ready .any ops listed).contains i
/-- An operation that does not look at memory. -/
theorem WA_pure (i : Nat) {d : Nat} (hi : ops[i]? = some o) (q : ∀ β F, OpU P β F [] n E o v) (hv : valB o.op = true) (hB : readyB ops listed i = true) (hg : wantedE ops E o = some true) (hd : o.dst = some d) (hn : Nat.blt d n = true)
    (k : St β F L (WA P n ops g (listed.setIfInBounds i true) ((d, v) :: E) K)) : St β F L (WA P n ops (g + 1) listed E K) := by
  intro w hw Q h1 h2 h3 a ha
  simp only [readyB, Bool.and_eq_true] at hB
  obtain ⟨⟨hs, hf⟩, hr⟩ := hB
  refine wpAny_pull hi (Region.noSelect_spec hs) h1 h2 g listed a w (Region.free_spec hi hf) (by simpa using hr) ⟨wanted_of ha hg, OpU.pure q hv ha⟩ ?_
  rw [hd]
  exact k w hw Q h1 h2 h3 _ (ha.put (d := some d) hn v)
/-- These operations are all that may come ahead of i: each other one waits for i, or for one that is neither listed nor among these. -/
def onlyB (ops : Array Oper) (listed : Array Bool) (i : Nat) (js : List Nat) : Bool := (List.range ops.size).all fun j => j == i || listed.getD j true || js.contains j || match ops[j]? with
  | some oj => oj.after.any (fun e => Region.binds .any e && (e.on == i || (!js.contains e.on && !listed.getD e.on true)))
  | none => true
def apartB (ops : Array Oper) (i : Nat) (js : List Nat) : Bool := match ops[i]? with
  | some oi => js.all fun j => match ops[j]? with
    | some oj => oi.apart ops oj
    | none => true
  | none => false
/-- What is still to come writes none of these temporaries. -/
def freshB (ops : Array Oper) (listed : Array Bool) (keys : List Nat) : Bool := (List.range ops.size).all fun j => listed.getD j true || match ops[j]? with
  | some oj => (match oj.dst with | some d => !keys.contains d | none => true)
  | none => true
/-- From a world of the class, in such a state, the operation comes to a world of the class. -/
def KeepJ (P : Program) (n : Nat) (E : Env) (Cw : World → Prop) (o : Oper) : Prop := ∀ a w, EnvOk n E a → Cw w → match (execOp a.eval o).run P w with
  | .ok (.value _) w' => Cw w'
  | .ok .skip w' => Cw w'
  | .ok _ _ => False
  | .halt _ _ => True
theorem KeepJ.of_WO (hv : valB o.op = true) (hg : o.guard = none) (h : St β F L (WO P n #[] [o] E (fun _ w => Ok β F L w))) : KeepJ P n E (Ok β F L) o := by
  intro a w ha hw
  have h1 := h w hw (fun e a w => e = .normal ∧ Ok β F L w) (fun E' w' a' x _ => ⟨rfl, x⟩) a ha
  have h2 := valB_spec (P := P) hv a.eval w
  unfold wpList at h1
  rw [show Region.wanted o (yielded #[] a.tmps) = true by simp [Region.wanted, hg]] at h1
  simp only [if_true] at h1
  rcases h1 with h1 | h1
  · unfold Oper.wp at h1
    generalize (execOp a.eval o).run P w = r at *
    cases r with
    | halt x w' => trivial
    | ok y w' =>
      cases y <;> simp only [isVal] at h2 <;> simp only [Oper.upon, wpList] at h1 ⊢
      exact h1.2
  · exact absurd h1.2 (fun ⟨_, _, h, _⟩ => by cases h)
inductive KeepAll (P : Program) (n : Nat) (E : Env) (Cw : World → Prop) (ops : Array Oper) : List Nat → Prop
  | nil : KeepAll P n E Cw ops []
  | cons {j : Nat} {js : List Nat} {o : Oper} : ops[j]? = some o → KeepJ P n E Cw o → KeepAll P n E Cw ops js → KeepAll P n E Cw ops (j :: js)
theorem KeepAll.spec {Cw : World → Prop} {js : List Nat} (h : KeepAll P n E Cw ops js) {j : Nat} {o : Oper} (hj : j ∈ js) (ho : ops[j]? = some o) : KeepJ P n E Cw o := by
  induction h with
  | nil => cases hj
  | cons h1 h2 _ ih =>
    rcases List.mem_cons.1 hj with rfl | hj
    · rw [h1] at ho; cases ho; exact h2
    · exact ih hj
theorem keep_none {E : Env} {d : Nat} : ∀ {l : List Nat}, d ∉ l → lk (keep E l) d = none
  | [], _ => rfl
  | s :: r, h => by
    have h1 : s ≠ d := fun e => h (e ▸ List.mem_cons_self ..)
    have h2 := keep_none (E := E) (l := r) (fun m => h (List.mem_cons_of_mem _ m))
    simp only [keep]
    split
    · simp only [lk]
      have : Nat.beq s d = false := by rw [Bool.eq_false_iff]; intro h; exact h1 (Nat.eq_of_beq_eq_true h)
      rw [this]; exact h2
    · exact h2
theorem EnvOk.put_fresh {a : Act} (k : EnvOk n E a) {d : Option Tmp} (hd : ∀ t, d = some t → lk E t = none) (v : Value) : EnvOk n E (a.put d v) := by
  cases d with
  | none => exact k
  | some d =>
    refine ⟨by simp [Act.put, k.size], k.defers, fun t u h => ?_⟩
    have e : d ≠ t := fun e => by rw [← e, hd d rfl] at h; cases h
    simpa [Act.put, Array.getElem?_setIfInBounds_ne e] using k.get t u h
theorem wpOp_putJ {Cw : World → Prop} {Q : Exit → Act → World → Prop} {j : Nat} {oi oj : Oper} (hj : ops[j]? = some oj) (hap : oi.apart ops oj = true) (hsi : ∀ cs b, oi.op ≠ .select cs b) (hsj : ∀ cs b, oj.op ≠ .select cs b) (hnd : ∀ e a w, Q e a w → e = .normal) (hL : ¬ LetsOut Q)
    {K : Act → World → Prop} {a : Act} {w : World} (hw : Cw w) (hy : PureC P ops Cw oi v a) (hkp : KeepJ P n E Cw oj) (hfr : ∀ t, oj.dst = some t → lk E t = none) (ha : EnvOk n E a) (h : wpOp P ops Q j K (a.put oi.dst v) w) :
    wpOp P ops Q j (fun a' w' => (PureC P ops Cw oi v a' ∧ Cw w' ∧ EnvOk n E a') ∧ K (a'.put oi.dst v) w') a w := by
  obtain ⟨h1, h2, h3⟩ := Oper.apart_spec hap
  unfold wpOp at *
  simp only [hj] at *
  rw [wanted_put oj a oi.dst v h1] at h
  have fin : ∀ u w', Cw w' → K ((a.put oi.dst v).put oj.dst u) w' → (PureC P ops Cw oi v (a.put oj.dst u) ∧ Cw w' ∧ EnvOk n E (a.put oj.dst u)) ∧ K ((a.put oj.dst u).put oi.dst v) w' := fun u w' hc hk => ⟨⟨hy.keep hsi h3 u, hc, ha.put_fresh hfr u⟩, by rw [← Act.put_comm a v u h2]; exact hk⟩
  split
  · rename_i hw1
    simp only [hw1, if_true] at h
    rcases h with h | h
    · refine .inl ?_
      unfold Oper.wp at *
      rw [execOp_put oj hsj a oi.dst v h1] at h
      have hk := hkp a w ha hw
      generalize (execOp a.eval oj).run P w = r at *
      cases r with
      | ok n w' =>
        cases n <;> simp only [Oper.upon] at h hk ⊢
        case value u => exact fin u w' hk h
        case skip => exact fin _ w' hk h
      | halt x w' => cases x <;> simp only [Oper.upon] at h ⊢ <;> first | exact h | exact absurd (hnd _ _ _ h) (by simp)
    · exact absurd h.2 hL
  · rename_i hw1
    simp only [hw1] at h
    exact fin _ _ hw h
theorem wpAny_pullJ {Cw : World → Prop} {Q : Exit → Act → World → Prop} {i : Nat} {oi : Oper} {js : List Nat} {listed0 : Array Bool} (hi : ops[i]? = some oi) (hsel : ∀ (j : Nat) (o : Oper) cs b, ops[j]? = some o → o.op ≠ .select cs b) (hnd : ∀ e a w, Q e a w → e = .normal) (hL : ¬ LetsOut Q)
    (hjs : ∀ j ∈ js, ∀ oj, ops[j]? = some oj → oi.apart ops oj = true ∧ KeepJ P n E Cw oj)
    (hout : ∀ j oj, ops[j]? = some oj → j ≠ i → listed0.getD j true = false → j ∉ js → ∃ e ∈ oj.after, Region.binds .any e = true ∧ (e.on = i ∨ (e.on ∉ js ∧ listed0.getD e.on true = false)))
    (hfr : ∀ j oj, ops[j]? = some oj → listed0.getD j true = false → ∀ t, oj.dst = some t → lk E t = none) :
    ∀ (fuel : Nat) (listed : Array Bool) (a : Act) (w : World), (∀ k, k ∉ js → k ≠ i → listed.getD k true = listed0.getD k true) → (∀ k, listed0.getD k true = true → listed.getD k true = true) →
      i ∈ Region.ready .any ops listed → Cw w → EnvOk n E a → PureC P ops Cw oi v a →
      wpAny P .any ops Q fuel (listed.setIfInBounds i true) (a.put oi.dst v) w → wpAny P .any ops Q (fuel + 1) listed a w := by
  have here : ∀ (K : Act → World → Prop) (a : Act) (w : World), Cw w → PureC P ops Cw oi v a → K (a.put oi.dst v) w → wpOp P ops Q i K a w := by
    intro K a w hw hy hk
    unfold wpOp
    simp only [hi]
    rw [hy.wanted]
    simp only [if_true]
    refine .inl ?_
    unfold Oper.wp
    rw [hy.run w hw]
    exact hk
  intro fuel
  induction fuel with
  | zero =>
    intro listed a w _ _ hr hw ha hy H
    refine ⟨fun h => (by rw [h] at hr; cases hr), fun j hj => ?_⟩
    by_cases hji : j = i
    · subst hji; exact here _ a w hw hy H
    · have := ready_mono hj hji
      rw [H.1] at this
      cases this
  | succ fuel ih =>
    intro listed a w inv inv2 hr hw ha hy H
    refine ⟨fun h => (by rw [h] at hr; cases hr), fun j hj => ?_⟩
    by_cases hji : j = i
    · subst hji; exact here _ a w hw hy H
    · have h1 := H.2 j (ready_mono hj hji)
      obtain ⟨hjun, oj, hoj, hall⟩ := mem_ready.1 hj
      have hun := (mem_ready.1 hr).1
      have hj0 : listed0.getD j true = false := by
        cases h : listed0.getD j true with
        | false => rfl
        | true => rw [inv2 j h] at hjun; cases hjun
      have hjj : j ∈ js := by
        refine Classical.byContradiction fun hn => ?_
        obtain ⟨e, he, hb, h2⟩ := hout j oj hoj hji hj0 hn
        have h3 := hall e he hb
        rcases h2 with h2 | ⟨h2, h4⟩
        · rw [h2, getD_both hun] at h3; cases h3
        · by_cases hei : e.on = i
          · rw [hei, getD_both hun] at h3; cases h3
          · rw [getD_both (by rw [inv _ h2 hei]; exact h4)] at h3; cases h3
      have hfj := hjs j hjj oj hoj
      have h2 := wpOp_putJ hoj hfj.1 (fun cs b => hsel i oi cs b hi) (fun cs b => hsel j oj cs b hoj) hnd hL hw hy hfj.2 (hfr j oj hoj hj0) ha h1
      refine wpOp_mono (fun a' w' h3 => ih (listed.setIfInBounds j true) a' w' (fun k hk hki => ?_) (fun k hk => ?_) (ready_mono hr (Ne.symm hji)) h3.1.2.1 h3.1.2.2 h3.1.1 ?_) h2
      · have : j ≠ k := fun e => hk (e ▸ hjj)
        rw [getD_set_ne true this]; exact inv k hk hki
      · by_cases hjk : j = k
        · subst hjk; rw [hj0] at hk; cases hk
        · rw [getD_set_ne true hjk]; exact inv2 k hk
      · rw [Array.setIfInBounds_comm _ _ hji]
        exact h3.2
/-- An operation that looks at memory; what is known of 'keys' is kept for those that may come ahead. -/
theorem WA_look (i : Nat) (keys js : List Nat) {d : Nat} {E' : Env} (hi : ops[i]? = some o) (q : OpU P β F L n E o v) (hv : valB o.op = true) (hE : keep E keys = E') (hB : (Region.noSelect ops && (Region.ready .any ops listed).contains i && onlyB ops listed i js && apartB ops i js && freshB ops listed keys) = true) (hk : KeepAll P n E' (Ok β F L) ops js)
    (hg : wantedE ops E o = some true) (hd : o.dst = some d) (hn : Nat.blt d n = true)
    (k : St β F L (WA P n ops g (listed.setIfInBounds i true) ((d, v) :: E) K)) : St β F L (WA P n ops (g + 1) listed E K) := by
  intro w hw Q h1 h2 h3 a ha
  simp only [Bool.and_eq_true] at hB
  obtain ⟨⟨⟨⟨hs, hr⟩, hO⟩, hA⟩, hF⟩ := hB
  refine wpAny_pullJ (E := E') (n := n) (js := js) (listed0 := listed) hi (Region.noSelect_spec hs) h1 h2 (fun j hj oj hoj => ⟨?_, hk.spec hj hoj⟩) (fun j oj hj hne hun hno => ?_) (fun j oj hj hun t ht => ?_) g listed a w (fun _ _ _ => rfl) (fun _ h => h) (by simpa using hr) hw (ha.weak (hE ▸ keep_lk E keys)) ⟨wanted_of ha hg, OpU.pureC q hv ha⟩ ?_
  · simp only [apartB, hi, List.all_eq_true] at hA
    have := hA j hj
    simpa only [hoj] using this
  · simp only [onlyB, List.all_eq_true, List.mem_range] at hO
    have h4 := hO j (Array.getElem?_eq_some_iff.1 hj).1
    simp only [hj, Bool.or_eq_true, beq_iff_eq, hne, false_or, hun, Bool.false_eq_true, List.contains_eq_mem, decide_eq_true_eq, hno] at h4
    obtain ⟨e, he, hb⟩ := Array.any_eq_true'.1 h4
    simp only [Bool.and_eq_true, Bool.or_eq_true, beq_iff_eq, Bool.not_eq_true', decide_eq_false_iff_not] at hb
    exact ⟨e, he, hb.1, hb.2⟩
  · simp only [freshB, List.all_eq_true, List.mem_range] at hF
    have h4 := hF j (Array.getElem?_eq_some_iff.1 hj).1
    simp only [hj, Bool.or_eq_true, hun, Bool.false_eq_true, false_or, ht, Bool.not_eq_true', List.contains_eq_mem, decide_eq_false_iff_not] at h4
    rw [← hE]
    exact keep_none h4
  · rw [hd]
    exact k w hw Q h1 h2 h3 _ (ha.put (d := some d) hn v)
/-- Each operation that may come now. -/
theorem WA_step (hne : (Region.ready .any ops listed).isEmpty = false) (h : ∀ i ∈ Region.ready .any ops listed, ∃ o, ops[i]? = some o ∧ St β F L (WO P n ops [o] E (fun E' w => WA P n ops g (listed.setIfInBounds i true) E' K w))) : St β F L (WA P n ops (g + 1) listed E K) := by
  intro w hw Q h1 h2 h3 a ha
  refine ⟨fun h0 => (by rw [h0] at hne; cases hne), fun i hi => ?_⟩
  obtain ⟨o, ho, hWO⟩ := h i hi
  have hx := hWO w hw (fun e a w => e = .normal ∧ wpAny P .any ops Q g (listed.setIfInBounds i true) a w) (fun E' w' a' x y => ⟨rfl, x Q h1 h2 h3 a' y⟩) a ha
  unfold wpOp
  simp only [ho]
  unfold wpList at hx
  split
  · rename_i hw1
    simp only [hw1, if_true] at hx
    rcases hx with hx | hx
    · refine .inl ?_
      unfold Oper.wp at *
      generalize (execOp a.eval o).run P w = r at *
      cases r with
      | ok n w' =>
        cases n <;> simp only [Oper.upon, wpList] at hx ⊢
        case value u => exact hx.2
        case skip => exact hx.2
        case defer => exact hx.2
        case enter f args => exact Calls.mono hx fun e w'' he => by cases e <;> first | exact he.2 | exact absurd he.1 (by simp) | exact absurd he (fun ⟨_, _, h, _⟩ => by cases h)
        case row r args => exact Rows.mono hx fun u w'' he => he.2
      | halt x w' => cases x <;> simp only [Oper.upon] at hx ⊢ <;> exact absurd hx.1 (by simp)
    · exact absurd hx.2 (fun ⟨_, _, h, _⟩ => by cases h)
  · rename_i hw1
    simp only [hw1] at hx
    exact hx.2
theorem WA_one (i : Nat) (hr : decide (Region.ready .any ops listed = [i]) = true) (hi : ops[i]? = some o) (h : St β F L (WO P n ops [o] E (fun E' w => WA P n ops g (listed.setIfInBounds i true) E' K w))) : St β F L (WA P n ops (g + 1) listed E K) := by
  have hr := of_decide_eq_true hr
  refine WA_step (by rw [hr]; rfl) fun j hj => ?_
  rw [hr] at hj
  rcases List.mem_singleton.1 hj with rfl
  exact ⟨o, hi, h⟩
theorem WA_two {o1 o2 : Oper} (i j : Nat) (hr : decide (Region.ready .any ops listed = [i, j]) = true) (hi : ops[i]? = some o1) (hj : ops[j]? = some o2) (h1 : St β F L (WO P n ops [o1] E (fun E' w => WA P n ops g (listed.setIfInBounds i true) E' K w)))
    (h2 : St β F L (WO P n ops [o2] E (fun E' w => WA P n ops g (listed.setIfInBounds j true) E' K w))) : St β F L (WA P n ops (g + 1) listed E K) := by
  have hr := of_decide_eq_true hr
  refine WA_step (by rw [hr]; rfl) fun k hk => ?_
  rw [hr] at hk
  rcases List.mem_cons.1 hk with rfl | hk
  · exact ⟨o1, hi, h1⟩
  · rcases List.mem_singleton.1 hk with rfl
    exact ⟨o2, hj, h2⟩
/-- The rest has an order. -/
theorem WA_seq {l : List Oper} {K : Env → World → Prop} (k : Nat) (hl : l = ops.toList.drop k) (hg : g = l.length) (hB : Region.seqB .any ops g k listed = true) (h : St β F L (WO P n ops l E K)) : St β F L (WA P n ops g listed E K) := by
  intro w hw Q h1 h2 h3 a ha
  subst hg
  exact wpAny_of_seq l k listed a w (fun j => by rw [hl, List.getElem?_drop]; simp) hB (h w hw Q (fun E' w' a' x y => h3 E' w' a' x y) a ha)
end
section
variable {P : Program} {f : FuncId} {β : Bs} {F : SP} {L M : List SP} {n : Nat} {R : Value → List SP → Prop} {k : List Item} {E : Env}
theorem WT_any {id : Nat} {l : List Oper} [wd : Wide P] (h : St β F L (WA P n l.toArray l.length (Array.replicate l.length false) E (WT P f β F n R k))) : St β F L (WT P f β F n R (.code (.region id l.toArray true) :: k) E) := by
  intro w hw b cs a hb hk ha
  have h3 : (Code.region id l.toArray true).wp P (fun e a' w' => e = .normal ∧ ∃ E', WT P f β F n R k E' w' ∧ EnvOk n E' a') a w := by
    refine wp_region_any wd.eq ?_
    have := h _ (hw.drawn (w.drawn + 1)) (fun e a' w' => e = .normal ∧ ∃ E', WT P f β F n R k E' w' ∧ EnvOk n E' a') (fun e a w h => h.1) (fun ⟨_, _, h, _⟩ => by cases h) (fun E'' w'' a'' x y => ⟨rfl, E'', x, y⟩) a ha
    simpa using this
  obtain ⟨e, a', w', ⟨rfl, E', h4, h5⟩, harr⟩ := h3 b k cs
  exact (h4 b cs a' hb hk h5).steps harr
end
end Go.Sl
namespace Go.Sl
set_option linter.all false
theorem remA {A : SP} {L M : List SP} (r : Rem A L M := by first | exact .here | exact .there .here | exact .there (.there .here) | exact .there (.there (.there .here)) | exact .there (.there (.there (.there .here))) | exact .there (.there (.there (.there (.there .here)))) | exact .there (.there (.there (.there (.there (.there .here))))) | exact .there (.there (.there (.there (.there (.there (.there .here)))))) | exact .there (.there (.there (.there (.there (.there (.there (.there .here))))))) | exact .there (.there (.there (.there (.there (.there (.there (.there (.there .here)))))))) | exact .there (.there (.there (.there (.there (.there (.there (.there (.there (.there .here))))))))) | exact .there (.there (.there (.there (.there (.there (.there (.there (.there (.there (.there .here)))))))))) | exact .there (.there (.there (.there (.there (.there (.there (.there (.there (.there (.there (.there .here))))))))))) | exact .there (.there (.there (.there (.there (.there (.there (.there (.there (.there (.there (.there (.there .here)))))))))))) | exact .there (.there (.there (.there (.there (.there (.there (.there (.there (.there (.there (.there (.there (.there .here)))))))))))))) : Rem A L M := r
theorem remsA {L M As : List SP} (r : Rems As L M := by first | exact .nil | exact .cons remA (by first | exact .nil | exact .cons remA (by first | exact .nil | exact .cons remA (by first | exact .nil | exact .cons remA (by first | exact .nil | exact .cons remA (by first | exact .nil | exact .cons remA (by first | exact .nil | exact .cons remA (by first | exact .nil | exact .cons remA (by first | exact .nil | exact .cons remA (by first | exact .nil | exact .cons remA (by first | exact .nil | exact .cons remA (by first | exact .nil | exact .cons remA (by first | exact .nil | exact .cons remA (by first | exact .nil | exact .cons remA (by exact .nil))))))))))))))) : Rems As L M := r
theorem pickN {β : Bs} {F : SP} {L M As : List SP} {X : World → Prop} (k : St β F As X) (r : Rems As L M := by first | exact .nil | exact .cons remA (by first | exact .nil | exact .cons remA (by first | exact .nil | exact .cons remA (by first | exact .nil | exact .cons remA (by first | exact .nil | exact .cons remA (by first | exact .nil | exact .cons remA (by first | exact .nil | exact .cons remA (by first | exact .nil | exact .cons remA (by first | exact .nil | exact .cons remA (by first | exact .nil | exact .cons remA (by first | exact .nil | exact .cons remA (by first | exact .nil | exact .cons remA (by first | exact .nil | exact .cons remA (by first | exact .nil | exact .cons remA (by exact .nil))))))))))))))) : St β F L X := st_pick r k
section
variable {P : Program} {f : FuncId} {β : Bs} {F : SP} {L M : List SP} {n : Nat} {R : Value → List SP → Prop} {k : List Item} {E : Env}
theorem WT_loopX2 {α γ : Type} {c : Code} (N : Nat) (p : Nat → α → γ → Prop) (Ei : Nat → α → γ → Env) (Li : Nat → α → γ → List SP)
    (round : ∀ i x y, i ≤ N → p i x y → (∀ x' y', i + 1 ≤ N → p (i + 1) x' y' → St β F (Li (i + 1) x' y') (WT P f β F n R (.inLoop c :: k) (Ei (i + 1) x' y'))) → St β F (Li i x y) (WT P f β F n R (.code c :: .inLoop c :: k) (Ei i x y))) (i : Nat) (x : α) (y : γ) (hi : i ≤ N) (hp : p i x y) :
    St β F (Li i x y) (WT P f β F n R (.code (.loop c) :: k) (Ei i x y)) :=
  WT_loopX N (fun i (x : α × γ) => p i x.1 x.2) (fun i x => Ei i x.1 x.2) (fun i x => Li i x.1 x.2) (fun i x hi hp ih => round i x.1 x.2 hi hp fun x' y' h hp' => ih (x', y') h hp') i (x, y) hi hp
theorem WT_loopX3 {α γ δ : Type} {c : Code} (N : Nat) (p : Nat → α → γ → δ → Prop) (Ei : Nat → α → γ → δ → Env) (Li : Nat → α → γ → δ → List SP)
    (round : ∀ i x y z, i ≤ N → p i x y z → (∀ x' y' z', i + 1 ≤ N → p (i + 1) x' y' z' → St β F (Li (i + 1) x' y' z') (WT P f β F n R (.inLoop c :: k) (Ei (i + 1) x' y' z'))) → St β F (Li i x y z) (WT P f β F n R (.code c :: .inLoop c :: k) (Ei i x y z))) (i : Nat) (x : α) (y : γ) (z : δ) (hi : i ≤ N) (hp : p i x y z) :
    St β F (Li i x y z) (WT P f β F n R (.code (.loop c) :: k) (Ei i x y z)) :=
  WT_loopX N (fun i (x : α × γ × δ) => p i x.1 x.2.1 x.2.2) (fun i x => Ei i x.1 x.2.1 x.2.2) (fun i x => Li i x.1 x.2.1 x.2.2) (fun i x hi hp ih => round i x.1 x.2.1 x.2.2 hi hp fun x' y' z' h hp' => ih (x', y', z') h hp') i (x, y, z) hi hp
end
/-- An owned slice is a slice. -/
theorem st_ownV {β : Bs} {F : SP} {L M : List SP} {X : World → Prop} {T sz : Nat} {s : Value} {l : List Value} (r : Rem (ownS T sz s l) L M) (k : ∀ p n c, s = .slice p n c → St β F L X) : St β F L X := by
  intro w h
  have h3 : sep (ownS T sz s l :: F :: M) (hp w) := star_left (h.perm r.perm).heap
  obtain ⟨g1, g2, d, e, hh, y⟩ := h3
  rcases hh with ⟨hh, hl⟩ | ⟨b, k', c, sp, q1, q2, q3, q4, q5⟩
  · exact k _ _ _ hh w h
  · exact k _ _ _ q1 w h
end Go.Sl
namespace Go.Sl
set_option linter.all false
section
variable {P : Program} {f : FuncId} {β : Bs} {F : SP} {L M : List SP} {n : Nat} {R : Value → List SP → Prop} {k : List Item} {E : Env}
theorem WT_retC {fn : Func} {a t b : Nat} {T T' : TypeId} {vs : List Value} {v : Value} (hf : P.funcs[f]? = some fn) (hrs : fn.results = [.cell a T, .tmp t].toArray) [z : Agg P T vs.length] (ha : lk E a = some (.pointer (some ⟨b, 0, none⟩))) (ht : lk E t = some v)
    (hb : cel b vs T' ∈ L) {L0 : List SP} (h : R (.tuple [.agg vs.toArray, v].toArray) L0) (r : Rems L0 L M) : St β F L (WT P f β F n R (.code .ret :: k) E) := by
  intro w hw fr cs ac hfr hk hac
  have e1 : ac.tmps[a]? = some (.pointer (some ⟨b, 0, none⟩)) := hac.get _ _ ha
  have e2 : ac.tmps[t]? = some v := hac.get _ _ ht
  have h0 := hw.get hb
  have h2 := run_loadCells_list (P := P) (w := w) ⟨b, 0, none⟩ vs (fun j u hj => by
    rw [show (Addr.add ⟨b, 0, none⟩ j : Addr) = ⟨b, 0 + j, none⟩ from add_off b 0 j, cell_of_row w b (0 + j) vs.toArray T' (0, 0) h0]
    simpa using hj)
  have hres : (results fn ac.tmps).run P w = .ok (.tuple [.agg vs.toArray, v].toArray) w := by
    unfold results
    rw [Array.mapM_eq_foldlM, ← Array.foldlM_toList, hrs]
    simp [e1, e2, asAddr, loadVar, Agg.run, Agg.size, h2]
  exact ⟨_, w, _, L0, h, (hw.perm r.perm).map fun _ s => sep_weak' s, .one step_ret, hfr, rfl, hac.defers, hk, fn, by simpa [Frame.at, hfr] using hf, by simpa [Frame.at] using hres⟩
end
theorem updA {A A' : SP} {L M : List SP} (r : Upd A A' L M := by first | exact .here | exact .there .here | exact .there (.there .here) | exact .there (.there (.there .here)) | exact .there (.there (.there (.there .here))) | exact .there (.there (.there (.there (.there .here)))) | exact .there (.there (.there (.there (.there (.there .here))))) | exact .there (.there (.there (.there (.there (.there (.there .here)))))) | exact .there (.there (.there (.there (.there (.there (.there (.there .here))))))) | exact .there (.there (.there (.there (.there (.there (.there (.there (.there .here)))))))) | exact .there (.there (.there (.there (.there (.there (.there (.there (.there (.there .here))))))))) | exact .there (.there (.there (.there (.there (.there (.there (.there (.there (.there (.there .here)))))))))) | exact .there (.there (.there (.there (.there (.there (.there (.there (.there (.there (.there (.there .here))))))))))) | exact .there (.there (.there (.there (.there (.there (.there (.there (.there (.there (.there (.there (.there .here)))))))))))) | exact .there (.there (.there (.there (.there (.there (.there (.there (.there (.there (.there (.there (.there (.there .here)))))))))))))) : Upd A A' L M := r
section
variable {P : Program} {β : Bs} {F : SP} {L M : List SP} {n : Nat} {ops : Array Oper} {rest : List Oper} {E : Env} {K : Env → World → Prop} {o1 o2 : Oper}
/-- One element of three cells is appended: the literal and the append. -/
theorem WO_append3 {ts e : TypeId} {x y : Operand} {d0 d : Nat} {a1 a2 a3 s z1 z2 z3 : Value} {i : TypeInfo} {l : List Value} (ho1 : o1.op = .buildSlice ts 1 [(0, y)].toArray)
    (ho2 : o2.op = .call { callee := .builtin .append, args := #[x, .tmp d0], argTypes := #[ts, ts] }) [Und P ts (.slice e)] [hsz : Siz P e 3] [ti : TI P e i] [hz : Zer P e (.agg #[z1, z2, z3])]
    (hg1 : wantedE ops E o1 = some true) (hd1 : o1.dst = some d0) (hn1 : Nat.blt d0 n = true) (hy : ev E y = some (.agg [a1, a2, a3].toArray)) (h1 : a1.oneCell' = true) (h2 : a2.oneCell' = true) (h3 : a3.oneCell' = true)
    (hx : ∀ b, ev ((d0, .slice (some ⟨b, 0, none⟩) 1 1) :: E) x = some s) (hroom : l.length + 3 ≤ 1073741824) (hby : i.bytes ≤ 1024)
    (hg2 : ∀ b, wantedE ops ((d0, .slice (some ⟨b, 0, none⟩) 1 1) :: E) o2 = some true) (hd2 : o2.dst = some d) (hn2 : Nat.blt d n = true)
    (k : ∀ v' b, St β F (ownS e 3 v' (l ++ [a1, a2, a3]) :: M) (WO P n ops rest ((d, v') :: (d0, .slice (some ⟨b, 0, none⟩) 1 1) :: E) K))
    (r : autoParam (Rems [ownS e 3 s l] L M) pick._auto_1) : St β F L (WO P n ops (o1 :: o2 :: rest) E K) := by
  have hr : ∃ M', Rem (ownS e 3 s l) L M' ∧ M' = M := by
    cases r with
    | cons h1 h2 => cases h2; exact ⟨_, h1, rfl⟩
  obtain ⟨_, hr, rfl⟩ := hr
  have er : Array.range 3 = #[0, 1, 2] := rfl
  refine WO_buildSlice (T := ts) (e := e) (sz := 3) (len := 1) (ps := [(0, y)]) (us := [.agg [a1, a2, a3].toArray]) (l := [a1, a2, a3]) ho1 (by simp [evs, hy]) (by decide) (by simp [Instr.fill, er, Value.cells]) (by decide) hg1 hd1 hn1 fun b => ?_
  have hgt : ev ((d0, .slice (some ⟨b, 0, none⟩) 1 1) :: E) (.tmp d0) = some (.slice (some ⟨b, 0, none⟩) 1 1) := by simp [ev, lk, Nat.beq_refl]
  refine WO_append (news := [a1, a2, a3]) (m := 1) ho2 (hx b) hgt (.there hr) (fun h s => .inr ⟨b, 0, 1, [a1, a2, a3], e, (0, 0), rfl, sep_get (List.mem_cons_self ..) s, rfl⟩) rfl (by simp [h1, h2, h3]) rfl (by decide) (by simpa using hroom) hby (hg2 b) hd2 hn2 fun v' => ?_
  exact st_drop (.there .here) (k v' b)
end
end Go.Sl
namespace Go.Sl
set_option linter.all false

section
variable {P : Program} {ops : Array Oper} {md : Region.Mode} {Q : Exit → Act → World → Prop} {Iv : World → Prop}
/-- Whatever order is drawn; and the class is kept all along. -/
def wpAnyI (P : Program) (md : Region.Mode) (ops : Array Oper) (Iv : World → Prop) (Q : Exit → Act → World → Prop) : Nat → Array Bool → Act → World → Prop
  | 0, listed, a, w => Region.ready md ops listed = [] ∧ Q .normal a w
  | fuel + 1, listed, a, w =>
    (Region.ready md ops listed = [] → Q .normal a w) ∧
    ∀ i ∈ Region.ready md ops listed, wpOp P ops Q i (fun a' w' => Iv w' ∧ wpAnyI P md ops Iv Q fuel (listed.setIfInBounds i true) a' w') a w
theorem wpAnyI_any : ∀ (fuel : Nat) (listed : Array Bool) (a : Act) (w : World), wpAnyI P md ops Iv Q fuel listed a w → wpAny P md ops Q fuel listed a w
  | 0, _, _, _, h => h
  | fuel + 1, _, _, _, h => ⟨h.1, fun i hi => wpOp_mono (fun a' w' h' => wpAnyI_any fuel _ a' w' h'.2) (h.2 i hi)⟩
theorem wpOp_putI {j : Nat} {oi oj : Oper} {v : Value} (hj : ops[j]? = some oj) (hap : oi.apart ops oj = true) (hsi : ∀ cs b, oi.op ≠ .select cs b) (hsj : ∀ cs b, oj.op ≠ .select cs b) (hnd : ∀ e a w, Q e a w → e = .normal) (hL : ¬ LetsOut Q)
    {K : Act → World → Prop} {a : Act} {w : World} (hy : PureC P ops Iv oi v a) (h : wpOp P ops Q j K (a.put oi.dst v) w) :
    wpOp P ops Q j (fun a' w' => PureC P ops Iv oi v a' ∧ K (a'.put oi.dst v) w') a w := by
  obtain ⟨h1, h2, h3⟩ := Oper.apart_spec hap
  unfold wpOp at *
  simp only [hj] at *
  rw [wanted_put oj a oi.dst v h1] at h
  have fin : ∀ u w', K ((a.put oi.dst v).put oj.dst u) w' → PureC P ops Iv oi v (a.put oj.dst u) ∧ K ((a.put oj.dst u).put oi.dst v) w' := fun u w' hk => ⟨hy.keep hsi h3 u, by rw [← Act.put_comm a v u h2]; exact hk⟩
  split
  · rename_i hw
    simp only [hw, if_true] at h
    rcases h with h | h
    · refine .inl ?_
      unfold Oper.wp at *
      rw [execOp_put oj hsj a oi.dst v h1] at h
      generalize (execOp a.eval oj).run P w = r at *
      cases r with
      | ok n w' =>
        cases n <;> simp only [Oper.upon] at h ⊢
        case value u => exact fin u w' h
        case skip => exact fin _ w' h
        case defer d =>
          have e1 : ({ a.put oi.dst v with defers := d :: (a.put oi.dst v).defers } : Act) = ({ a with defers := d :: a.defers } : Act).put oi.dst v := by cases oi.dst <;> rfl
          rw [e1] at h
          have hy' : PureC P ops Iv oi v ({ a with defers := d :: a.defers } : Act) := ⟨hy.wanted, fun w hw => hy.run w hw⟩
          exact ⟨hy'.keep hsi h3 undef, by rw [← Act.put_comm _ v undef h2]; exact h⟩
        case enter f args => exact Calls.mono h fun e w'' he => by cases e <;> first | exact fin _ _ he | exact absurd (hnd _ _ _ he) (by simp) | exact absurd he hL
        case row r args => exact Rows.mono h fun u w'' he => fin u w'' he
        all_goals exact h
      | halt x w' => cases x <;> simp only [Oper.upon] at h ⊢ <;> first | exact h | exact absurd (hnd _ _ _ h) (by simp)
    · exact absurd h.2 hL
  · rename_i hw
    simp only [hw] at h
    exact fin _ _ h
theorem wpAnyI_pull {i : Nat} {oi : Oper} {v : Value} (hi : ops[i]? = some oi) (hsel : ∀ (j : Nat) (o : Oper) cs b, ops[j]? = some o → o.op ≠ .select cs b) (hnd : ∀ e a w, Q e a w → e = .normal) (hL : ¬ LetsOut Q) :
    ∀ (fuel : Nat) (listed : Array Bool) (a : Act) (w : World),
      (∀ j oj, ops[j]? = some oj → j ≠ i → listed.getD j true = false → (∀ e ∈ oj.after, Region.binds md e = true → e.on ≠ i) → oi.apart ops oj = true) →
      i ∈ Region.ready md ops listed → Iv w → PureC P ops Iv oi v a →
      wpAnyI P md ops Iv Q fuel (listed.setIfInBounds i true) (a.put oi.dst v) w → wpAnyI P md ops Iv Q (fuel + 1) listed a w := by
  have here : ∀ (K : Act → World → Prop) (a : Act) (w : World), Iv w → PureC P ops Iv oi v a → K (a.put oi.dst v) w → wpOp P ops Q i K a w := by
    intro K a w hw hy hk
    unfold wpOp
    simp only [hi]
    rw [hy.wanted]
    simp only [if_true]
    refine .inl ?_
    unfold Oper.wp
    rw [hy.run w hw]
    exact hk
  intro fuel
  induction fuel with
  | zero =>
    intro listed a w _ hr hw hy H
    refine ⟨fun h => (by rw [h] at hr; cases hr), fun j hj => ?_⟩
    by_cases hji : j = i
    · subst hji; exact here _ a w hw hy ⟨hw, H⟩
    · have := ready_mono hj hji
      rw [H.1] at this
      cases this
  | succ fuel ih =>
    intro listed a w hfree hr hw hy H
    refine ⟨fun h => (by rw [h] at hr; cases hr), fun j hj => ?_⟩
    by_cases hji : j = i
    · subst hji; exact here _ a w hw hy ⟨hw, H⟩
    · have h1 := H.2 j (ready_mono hj hji)
      obtain ⟨hjun, oj, hoj, hall⟩ := mem_ready.1 hj
      have hnot : ∀ e ∈ oj.after, Region.binds md e = true → e.on ≠ i := fun e he hb heq => by
        have h1 := hall e he hb
        have h0 := (mem_ready.1 hr).1
        rw [heq, getD_both h0] at h1
        cases h1
      have h2 := wpOp_putI hoj (hfree j oj hoj hji hjun hnot) (fun cs b => hsel i oi cs b hi) (fun cs b => hsel j oj cs b hoj) hnd hL hy h1
      have hfree' : ∀ k ok, ops[k]? = some ok → k ≠ i → (listed.setIfInBounds j true).getD k true = false →
          (∀ e ∈ ok.after, Region.binds md e = true → e.on ≠ i) → oi.apart ops ok = true := fun k ok hk hki hun hno => by
        refine hfree k ok hk hki ?_ hno
        by_cases hjk : j = k
        · subst hjk; exact hjun
        · rw [getD_set_ne true hjk] at hun; exact hun
      refine wpOp_mono (fun a' w' h3 => ⟨h3.2.1, ih (listed.setIfInBounds j true) a' w' hfree' (ready_mono hr (Ne.symm hji)) h3.2.1 h3.1 ?_⟩) h2
      rw [Array.setIfInBounds_comm _ _ hji]
      exact h3.2.2
end

/-- From here on, whatever order is drawn, K; the parts B stay. -/
def WI (P : Program) (β : Bs) (F : SP) (B : List SP) (n : Nat) (ops : Array Oper) (g : Nat) (listed : Array Bool) (E : Env) (K : Env → World → Prop) (w : World) : Prop :=
  ∀ (Q : Exit → Act → World → Prop), (∀ e a w, Q e a w → e = .normal) → ¬ LetsOut Q → (∀ E' w' a', K E' w' → EnvOk n E' a' → Q .normal a' w') → ∀ a, EnvOk n E a → wpAnyI P .any ops (Ok β F B) Q g listed a w
section
variable {P : Program} {β : Bs} {F : SP} {B L M : List SP} {n : Nat} {ops : Array Oper} {g : Nat} {listed : Array Bool} {E : Env} {K : Env → World → Prop} {o : Oper} {v : Value}
/-- An operation that looks at these parts, or at no memory. -/
theorem WI_q (i : Nat) {d : Nat} (hi : ops[i]? = some o) (q : OpU P β F B n E o v) (hv : valB o.op = true) (hB : readyB ops listed i = true) (hg : wantedE ops E o = some true) (hd : o.dst = some d) (hn : Nat.blt d n = true)
    (k : St β F L (WI P β F B n ops g (listed.setIfInBounds i true) ((d, v) :: E) K)) (r : Rems B L M) : St β F L (WI P β F B n ops (g + 1) listed E K) := by
  intro w hw Q h1 h2 h3 a ha
  simp only [readyB, Bool.and_eq_true] at hB
  obtain ⟨⟨hs, hf⟩, hr⟩ := hB
  have hI : Ok β F B w := (hw.perm r.perm).map fun _ s => sep_weak' s
  refine wpAnyI_pull hi (Region.noSelect_spec hs) h1 h2 g listed a w (Region.free_spec hi hf) (by simpa using hr) hI ⟨wanted_of ha hg, OpU.pureC q hv ha⟩ ?_
  rw [hd]
  exact k w hw Q h1 h2 h3 _ (ha.put (d := some d) hn v)
theorem WI_nil (k : St β F L (WI P β F B n ops g listed E K)) (r : Rems B L M) : St β F L (WO P n ops [] E (fun E' w => Ok β F B w ∧ WI P β F B n ops g listed E' K w)) :=
  WO_nil fun w hw => ⟨(hw.perm r.perm).map fun _ s => sep_weak' s, k w hw⟩
theorem WI_step (hne : (Region.ready .any ops listed).isEmpty = false) (h : ∀ i ∈ Region.ready .any ops listed, ∃ o, ops[i]? = some o ∧ St β F L (WO P n ops [o] E (fun E' w => Ok β F B w ∧ WI P β F B n ops g (listed.setIfInBounds i true) E' K w))) : St β F L (WI P β F B n ops (g + 1) listed E K) := by
  intro w hw Q h1 h2 h3 a ha
  refine ⟨fun h0 => (by rw [h0] at hne; cases hne), fun i hi => ?_⟩
  obtain ⟨o, ho, hWO⟩ := h i hi
  have hx := hWO w hw (fun e a w => e = .normal ∧ (Ok β F B w ∧ wpAnyI P .any ops (Ok β F B) Q g (listed.setIfInBounds i true) a w)) (fun E' w' a' x y => ⟨rfl, x.1, x.2 Q h1 h2 h3 a' y⟩) a ha
  unfold wpOp
  simp only [ho]
  unfold wpList at hx
  split
  · rename_i hw1
    simp only [hw1, if_true] at hx
    rcases hx with hx | hx
    · refine .inl ?_
      unfold Oper.wp at *
      generalize (execOp a.eval o).run P w = r at *
      cases r with
      | ok n w' =>
        cases n <;> simp only [Oper.upon, wpList] at hx ⊢
        case value u => exact hx.2
        case skip => exact hx.2
        case defer => exact hx.2
        case enter f args => exact Calls.mono hx fun e w'' he => by cases e <;> first | exact he.2 | exact absurd he.1 (by simp) | exact absurd he (fun ⟨_, _, h, _⟩ => by cases h)
        case row r args => exact Rows.mono hx fun u w'' he => he.2
      | halt x w' => cases x <;> simp only [Oper.upon] at hx ⊢ <;> exact absurd hx.1 (by simp)
    · exact absurd hx.2 (fun ⟨_, _, h, _⟩ => by cases h)
  · rename_i hw1
    simp only [hw1] at hx
    exact hx.2
theorem WI_one (i : Nat) (hr : decide (Region.ready .any ops listed = [i]) = true) (hi : ops[i]? = some o) (h : St β F L (WO P n ops [o] E (fun E' w => Ok β F B w ∧ WI P β F B n ops g (listed.setIfInBounds i true) E' K w))) : St β F L (WI P β F B n ops (g + 1) listed E K) := by
  have hr := of_decide_eq_true hr
  refine WI_step (by rw [hr]; rfl) fun j hj => ?_
  rw [hr] at hj
  rcases List.mem_singleton.1 hj with rfl
  exact ⟨o, hi, h⟩
theorem WI_done (hr : (Region.ready .any ops listed).isEmpty = true) (h : St β F L (K E)) : St β F L (WI P β F B n ops 0 listed E K) := by
  intro w hw Q h1 h2 h3 a ha
  exact ⟨by simpa using hr, h3 E w a (h w hw) ha⟩
end
section
variable {P : Program} {f : FuncId} {β : Bs} {F : SP} {L M : List SP} {n : Nat} {R : Value → List SP → Prop} {k : List Item} {E : Env}
theorem WT_inv (B : List SP) {id : Nat} {l : List Oper} [wd : Wide P] (h : St β F L (WI P β F B n l.toArray l.length (Array.replicate l.length false) E (WT P f β F n R k))) : St β F L (WT P f β F n R (.code (.region id l.toArray true) :: k) E) :=
  WT_any fun w hw Q h1 h2 h3 a ha => wpAnyI_any _ _ _ _ (h w hw Q h1 h2 h3 a ha)
end

/-! ### What the frame holds -/
/-- The frame has this block, beside others. -/
def Has (F : SP) (b : Nat) (ob : Obj) : Prop := ∃ F' : SP, ∀ h, F h ↔ star (blk b ob) F' h
theorem Has.star {F G : SP} {b : Nat} {ob : Obj} (h : Has F b ob) : Has (star F G) b ob := by
  obtain ⟨F', h⟩ := h
  refine ⟨Sl.star F' G, fun k => ⟨fun s => star_assoc (star_mono (fun _ x => (h _).1 x) (fun _ x => x) s), fun s => star_mono (fun _ x => (h _).2 x) (fun _ x => x) (star_assoc' s)⟩⟩
theorem Ok.lend {β : Bs} {F F' : SP} {L : List SP} {w : World} {A : SP} (h : ∀ k, F k → star A F' k) (hw : Ok β F L w) : Ok β F' (A :: L) w :=
  ⟨hw.os, hw.tape, hw.output, hw.size, hw.free, star_left (star_assoc (star_mono h (fun _ x => x) hw.heap))⟩
theorem Ok.back {β : Bs} {F F' : SP} {L : List SP} {w : World} {A : SP} (h : ∀ k, star A F' k → F k) (hw : Ok β F' (A :: L) w) : Ok β F L w :=
  ⟨hw.os, hw.tape, hw.output, hw.size, hw.free, star_mono h (fun _ x => x) (star_assoc' (star_left hw.heap))⟩
section
variable {P : Program} {β : Bs} {F : SP} {L M : List SP} {n : Nat} {ops : Array Oper} {rest : List Oper} {E : Env} {K : Env → World → Prop} {o : Oper} {v : Value}
theorem OpU.has {b : Nat} {ob : Obj} (hF : Has F b ob) (q : ∀ F', OpU P β F' (blk b ob :: L) n E o v) (hv : valB o.op = true) : OpU P β F L n E o v := by
  obtain ⟨F', h⟩ := hF
  refine ⟨fun a w ha hw => ?_⟩
  have h1 := OpU.pureC (q F') hv ha w (hw.lend fun k => (h k).1)
  rw [h1]
  exact ⟨rfl, rfl⟩
/-- A call that is lent a part of the frame. -/
theorem WO_callLent {f : FuncId} {xs : List Operand} {ats : Array TypeId} {vs : List Value} {A : SP} {F' : SP} {Lc : List SP} {R R' : Value → List SP → Prop} [c : Cal P f]
    (h1 : ∀ k, F k → star A F' k) (h2 : ∀ k, star A F' k → F k) (hc : C P f vs (A :: Lc) R) (hR : ∀ v L', R v L' → ∃ L'', L'.Perm (A :: L'') ∧ R' v L'')
    (ho : o.op = .call { callee := .value (.func f), args := xs.toArray, argTypes := ats }) (hv : evs E xs = some vs)
    (r : Rems Lc L M) (hg : wantedE ops E o = some true) {d : Nat} (hd : o.dst = some d) (hn : Nat.blt d n = true)
    (k : ∀ v L', R' v L' → St β F (L' ++ M) (WO P n ops rest ((d, v) :: E) K)) : St β F L (WO P n ops (o :: rest) E K) := by
  intro w h Q hQ a ha
  have h3 := (hc.frame (M := M)) β F' w (((h.perm r.perm).lend h1).perm (by simp))
  unfold wpList
  rw [wanted_of ha hg]
  simp only [if_true]
  refine .inl ?_
  unfold Oper.wp
  have e1 : (execOp a.eval o).run P w = .ok (.enter f vs.toArray) w := by
    have e2 := ha.evs hv
    simp only [execOp, ho, resolve, Act.eval, Deferred.ofValue, invoke, Sem.run_bind, Sem.run_pure, Result.andThen_ok]
    simp [e2, c.eq]
  rw [e1]
  simp only [Oper.upon]
  refine h3.mono ?_
  rintro e w' ⟨v, L', rfl, ⟨L'', rfl, hR1⟩, h4⟩
  obtain ⟨L3, hp, hR2⟩ := hR v L'' hR1
  simp only [hd]
  exact k v L3 hR2 w' (Ok.back h2 (h4.perm ((hp.append_right M).trans (by simp)))) Q hQ _ (ha.put (d := some d) hn _)
/-- A contract that asks something of the frame. -/
def CH (P : Program) (Hs : SP → Prop) (f : FuncId) (args : List Value) (L : List SP) (R : Value → List SP → Prop) : Prop :=
  ∀ β F w, Hs F → Ok β F L w → Calls P f args.toArray w fun e w' => ∃ v L', e = .returned v ∧ R v L' ∧ Ok β F L' w'
theorem WO_callH {f : FuncId} {xs : List Operand} {ats : Array TypeId} {vs : List Value} {Hs : SP → Prop} {Lc : List SP} {R : Value → List SP → Prop} [c : Cal P f]
    (hF : Hs (star F (sep M))) (hc : CH P Hs f vs Lc R)
    (ho : o.op = .call { callee := .value (.func f), args := xs.toArray, argTypes := ats }) (hv : evs E xs = some vs)
    (r : Rems Lc L M) (hg : wantedE ops E o = some true) {d : Nat} (hd : o.dst = some d) (hn : Nat.blt d n = true)
    (k : ∀ v L', R v L' → St β F (L' ++ M) (WO P n ops rest ((d, v) :: E) K)) : St β F L (WO P n ops (o :: rest) E K) := by
  intro w h Q hQ a ha
  have h1 := hc β _ w hF (h.perm r.perm).frame
  unfold wpList
  rw [wanted_of ha hg]
  simp only [if_true]
  refine .inl ?_
  unfold Oper.wp
  have e1 : (execOp a.eval o).run P w = .ok (.enter f vs.toArray) w := by
    have e2 := ha.evs hv
    simp only [execOp, ho, resolve, Act.eval, Deferred.ofValue, invoke, Sem.run_bind, Sem.run_pure, Result.andThen_ok]
    simp [e2, c.eq]
  rw [e1]
  simp only [Oper.upon]
  refine h1.mono ?_
  rintro e w' ⟨v, L', rfl, hR, h2⟩
  simp only [hd]
  exact k v L' hR w' h2.unframe Q hQ _ (ha.put (d := some d) hn _)
end
section
variable {P : Program} {f : FuncId} {L : List SP} {n : Nat} {R : Value → List SP → Prop} {Hs : SP → Prop}
theorem CH_enter {fn : Func} {c : Code} {vs : List Value} (hf : P.funcs[f]? = some fn) (hb : fn.body = some c) (hn : fn.ntmps = n) (hl : vs.length ≤ n)
    (h : ∀ β F, Hs F → St β F L (WT P f β F n R [.code c] (args0 0 vs))) : CH P Hs f vs L R := by
  intro β F w hH hw cs
  let b : Frame := { (default : Frame) with fn := f, kind := .normal }
  have henter : Frame.enter P f vs.toArray .normal = b.at { tmps := vs.toArray ++ Array.replicate (fn.ntmps - vs.toArray.size) undef, defers := [] } [.code c] := by
    simp [Frame.enter, Frame.at, hf, hb, b]
  obtain ⟨v, w', fr, L', r, o, s, e1, e2⟩ := h β F hH w hw b cs { tmps := vs.toArray ++ Array.replicate (fn.ntmps - vs.toArray.size) undef, defers := [] } rfl rfl
    ⟨by simp [hn]; omega, rfl, fun t v hv => by
      obtain ⟨_, h2⟩ := args0_lk vs 0 t v hv
      have h3 : t < vs.length := (List.getElem?_eq_some_iff.1 (by simpa using h2)).1
      simpa [Array.getElem?_append, h3] using h2⟩
  exact ⟨.returned v, w', fr, ⟨v, L', rfl, r, o⟩, by rw [henter]; exact s, e1, e2⟩
theorem CH_enter1 {fn : Func} {c : Code} {v0 : Value} (hf : P.funcs[f]? = some fn) (hb : fn.body = some c) (hn : fn.ntmps = n) (hl : Nat.ble 1 n = true) (h : ∀ β F, Hs F → St β F L (WT P f β F n R [.code c] [(0, v0)])) : CH P Hs f [v0] L R := CH_enter hf hb hn (Nat.le_of_ble_eq_true hl) h
theorem CH_enter2 {fn : Func} {c : Code} {v0 v1 : Value} (hf : P.funcs[f]? = some fn) (hb : fn.body = some c) (hn : fn.ntmps = n) (hl : Nat.ble 2 n = true) (h : ∀ β F, Hs F → St β F L (WT P f β F n R [.code c] [(0, v0), (1, v1)])) : CH P Hs f [v0, v1] L R := CH_enter hf hb hn (Nat.le_of_ble_eq_true hl) h
end
end Go.Sl
namespace Go.Sl
set_option linter.all false
section
variable {P : Program} {β : Bs} {F : SP} {L M : List SP} {n : Nat} {E : Env} {o : Oper}
def andN (x : Int) : Nat := (BitVec.ofInt 64 x).toNat &&& 1023
theorem andN_le (x : Int) : andN x ≤ 1023 := Nat.and_le_right
theorem q_and {t yt : TypeId} {x y : Operand} {i : Int} (ho : o.op = .binOp .and t x y yt) (hx : ev E x = some (.int .i64 i)) (hy : ev E y = some (.int .i64 1023)) : OpU P β F L n E o (.int .i64 (andN i : Int)) :=
  .val fun a w ha hw => by
    have hle := andN_le i
    have h1 : (BitVec.ofInt IntKind.i64.bits i &&& 1023#IntKind.i64.bits).toNat = andN i := by
      rw [BitVec.toNat_and]; rfl
    have h2 : IntKind.i64.wrap ((andN i : Nat) : Int) = (andN i : Int) := wrap_in (by omega)
    simp [execOp, ho, ha.ev hx, ha.ev hy, eqGuard, binOp, Op.intBits, h1, h2, -BitVec.toNat_and]
end
end Go.Sl
