/- The plain law of the reference table. -/
import Derived.Test.YtkknhcdjdcpfcaaPMark
namespace Go.Proofs.Ytkknhcdjdcpfcaa
open Go.Sl Go.Iso
set_option linter.all false

def phK (k : Int) : Int := if k = 3 then 4 else k
/-- Is an entry cleared in the end? -/
def clrB (lv al : Int → Bool) (e : Ent) : Bool := if e.kind = 3 then !al e.target else !lv e.target
def doneB (ph : Int) (nx i : Nat) (e : Ent) : Bool := decide (phK e.kind < ph) || (decide (phK e.kind = ph) && decide (i < nx))
def entJ (lv al : Int → Bool) (ph : Int) (nx i : Nat) (e : Ent) : Ent := if doneB ph nx i e = true ∧ clrB lv al e = true then { e with target := 0 } else e
def tagsOf (lv : Int → Bool) (l : List Ent) : List Int := (l.filter fun e => decide (e.kind = 2) && !lv e.target).map (·.tag)
theorem entJ_kind {lv al : Int → Bool} {ph : Int} {nx i : Nat} {e : Ent} : (entJ lv al ph nx i e).kind = e.kind := by unfold entJ; split <;> rfl
structure EntOk (H : HS) (e : Ent) : Prop where
  kind : e.kind = 1 ∨ e.kind = 2 ∨ e.kind = 3
  used : usedB H e.target = true
  pos : e.target ≠ 0
/-- What stays the same during the phases. -/
structure Ctx (H : HS) (N : Nat) (Rt : Int → Prop) (orig : List Ent) (col1 : Col) (lv al : Int → Bool) : Prop where
  gr : GrOk H N
  ents : ∀ e ∈ orig, EntOk H e
  few : orig.length ≤ 20
  lv : ∀ k, lv k = true ↔ cl col1 k ≠ 0
  al : ∀ k, al k = true ↔ Rch H Rt k
  roots : ∀ k, Rt k → usedB H k = true → k ≠ 0 → cl col1 k ≠ 0 ∨ ∃ e ∈ orig, e.kind = 2 ∧ e.target = k
  fin : ∀ e ∈ orig, e.kind = 2 → Rt e.target
structure J (H : HS) (Rt : Int → Prop) (orig : List Ent) (col1 : Col) (lv al : Int → Bool) (S : TS) (col : Col) (l : List Int) : Prop where
  ph : 1 ≤ S.phase ∧ S.phase ≤ 4
  nx : S.next ≤ orig.length
  ents : ∀ (i : Nat) (e : Ent), orig[i]? = some e → S.ents[i]? = some (entJ lv al S.phase S.next i e)
  len : S.ents.length = orig.length
  queue : S.queue = tagsOf lv (orig.take (if S.phase = 1 then 0 else if S.phase = 2 then S.next else orig.length))
  mkk : Mk H Rt (fun _ => False) col l
  mono : ∀ k, cl col1 k ≠ 0 → cl col k ≠ 0
  p1 : S.phase = 1 → l = [] ∧ col = col1
  p2 : S.phase = 2 → S.found ≠ none ∧ (∀ (i : Nat) (e : Ent), orig[i]? = some e → foundB S i = (decide (e.kind = 2) && !lv e.target)) ∧ ∀ (i : Nat) (e : Ent), i < S.next → orig[i]? = some e → e.kind = 2 → cl col e.target ≠ 0
  p3 : 3 ≤ S.phase → ∀ (i : Nat) (e : Ent), orig[i]? = some e → e.kind = 2 → cl col e.target ≠ 0
  p4 : S.phase = 4 → l = []
section
variable {H : HS} {N : Nat} {Rt : Int → Prop} {orig : List Ent} {col1 : Col} {lv al : Int → Bool} {S : TS} {col : Col} {l : List Int}
theorem kindP_phK {ph k : Int} (hph : ph = 1 ∨ ph = 2 ∨ ph = 4) (hk : k = 1 ∨ k = 2 ∨ k = 3) : k = kindP ph ↔ phK k = ph := by
  unfold kindP phK
  split <;> split <;> omega
theorem tagsOf_skip {l : List Ent} {a b : Nat} (hab : a ≤ b) (h : ∀ i e, a ≤ i → i < b → l[i]? = some e → e.kind ≠ 2) : tagsOf lv (l.take b) = tagsOf lv (l.take a) := by
  induction b with
  | zero => rw [show a = 0 by omega]
  | succ b ih =>
    rcases Nat.lt_or_ge b a with h1 | h1
    · rw [show a = b + 1 by omega]
    · have ih := ih h1 (fun i e h2 h3 => h i e h2 (by omega))
      rw [← ih, List.take_add_one]
      cases hb : l[b]? with
      | none => simp
      | some e =>
        have := h b e h1 (by omega) hb
        simp [tagsOf, List.filter_append, this]
/-- Entries of other kinds are passed over. -/
theorem J.skip (c : Ctx H N Rt orig col1 lv al) (j : J H Rt orig col1 lv al S col l) (h3 : S.phase ≠ 3) {a : Nat} (h1 : S.next ≤ a) (h2 : a ≤ orig.length) (hk : ∀ i e, S.next ≤ i → i < a → orig[i]? = some e → e.kind ≠ kindP S.phase) :
    J H Rt orig col1 lv al { S with next := a } col l := by
  have hph : S.phase = 1 ∨ S.phase = 2 ∨ S.phase = 4 := by have := j.ph; omega
  refine ⟨j.ph, h2, fun i e he => ?_, j.len, ?_, j.mkk, j.mono, j.p1, fun h => ?_, j.p3, j.p4⟩
  · rw [j.ents i e he]
    show some (entJ lv al S.phase S.next i e) = some (entJ lv al S.phase a i e)
    have hko := (c.ents e (List.mem_of_getElem? he)).kind
    have : doneB S.phase S.next i e = doneB S.phase a i e := by
      unfold doneB
      by_cases hp : phK e.kind = S.phase
      · by_cases hi : i < S.next
        · rw [decide_eq_true hi, decide_eq_true (show i < a by omega)]
        · by_cases hi2 : i < a
          · exact absurd ((kindP_phK hph hko).2 hp) (hk i e (by omega) hi2 he)
          · rw [decide_eq_false hi, decide_eq_false hi2]
      · rw [decide_eq_false hp]; simp
    unfold entJ
    rw [this]
  · show S.queue = tagsOf lv (orig.take (if S.phase = 1 then 0 else if S.phase = 2 then a else orig.length))
    rw [j.queue]
    by_cases hp1 : S.phase = 1
    · rw [if_pos hp1, if_pos hp1]
    · rw [if_neg hp1, if_neg hp1]
      by_cases hp2 : S.phase = 2
      · rw [if_pos hp2, if_pos hp2]
        refine (tagsOf_skip h1 fun i e hi1 hi2 he => ?_).symm
        have := hk i e hi1 hi2 he
        rwa [hp2] at this
      · rw [if_neg hp2, if_neg hp2]
  · obtain ⟨f1, f2, f3⟩ := j.p2 h
    refine ⟨f1, f2, fun i e hi he hke => ?_⟩
    by_cases hi2 : i < S.next
    · exact f3 i e hi2 he hke
    · have := hk i e (by omega) hi he
      rw [show S.phase = 2 from h] at this
      exact absurd hke this
theorem adv_spec {ents : List Ent} {kd : Int} : ∀ {j : Nat}, j ≤ ents.length → j ≤ advP ents kd j ∧ advP ents kd j ≤ ents.length ∧ (∀ i e, j ≤ i → i < advP ents kd j → ents[i]? = some e → e.kind ≠ kd) ∧ (∀ e, ents[advP ents kd j]? = some e → e.kind = kd) := by
  intro j hj
  generalize hd : ents.length - j = d
  induction d generalizing j with
  | zero =>
    have : j = ents.length := by omega
    subst this
    rw [adv_end (Nat.le_refl _)]
    exact ⟨Nat.le_refl _, Nat.le_refl _, fun i e h1 h2 => absurd h1 (by omega), fun e he => by rw [List.getElem?_eq_none (Nat.le_refl _)] at he; cases he⟩
  | succ d ih =>
    obtain ⟨e, he⟩ : ∃ e, ents[j]? = some e := ⟨ents[j]'(by omega), by simp⟩
    by_cases hk : e.kind = kd
    · rw [adv_stop he hk]
      exact ⟨Nat.le_refl _, hj, fun i e h1 h2 => absurd h1 (by omega), fun e' he' => by rw [he] at he'; cases he'; exact hk⟩
    · rw [adv_more he hk]
      obtain ⟨a1, a2, a3, a4⟩ := ih (j := j + 1) (by omega) (by omega)
      refine ⟨by omega, a2, fun i e' h1 h2 he' => ?_, a4⟩
      rcases Nat.lt_or_ge j i with h3 | h3
      · exact a3 i e' (by omega) h2 he'
      · have : i = j := by omega
        subst this; rw [he] at he'; cases he'; exact hk
theorem J.orig_kind (j : J H Rt orig col1 lv al S col l) {i : Nat} {e : Ent} (he : orig[i]? = some e) : ∃ e', S.ents[i]? = some e' ∧ e'.kind = e.kind := ⟨_, j.ents i e he, entJ_kind⟩
theorem J.adv (c : Ctx H N Rt orig col1 lv al) (j : J H Rt orig col1 lv al S col l) (h3 : S.phase ≠ 3) : J H Rt orig col1 lv al { S with next := advP S.ents (kindP S.phase) S.next } col l := by
  obtain ⟨a1, a2, a3, a4⟩ := adv_spec (ents := S.ents) (kd := kindP S.phase) (j := S.next) (by rw [j.len]; exact j.nx)
  refine j.skip c h3 a1 (by rw [← j.len]; exact a2) fun i e h1 h2 he => ?_
  obtain ⟨e', he', hk'⟩ := j.orig_kind he
  rw [← hk']
  exact a3 i e' h1 h2 he'
/-- What is white where the first phases are. -/
theorem lv_white (c : Ctx H N Rt orig col1 lv al) {e : Ent} (he : EntOk H e) : whiteP H col1 e.target = !lv e.target := by
  unfold whiteP
  rw [decide_eq_true he.pos, he.used]
  have := c.lv e.target
  cases hl : lv e.target with
  | true => rw [decide_eq_false (this.1 hl)]; rfl
  | false =>
    rw [decide_eq_true]; rfl
    exact Classical.byContradiction fun h => by rw [this.2 h] at hl; cases hl
/-- A round of settle. -/
theorem J.settle1 (c : Ctx H N Rt orig col1 lv al) (j : J H Rt orig col1 lv al S col l) {S' : TS} {b : Bool} (hs : settle1 (decide (l = [])) (whiteP H col) S = (S', b)) :
    J H Rt orig col1 lv al S' col l ∧ (b = true → (S'.phase = 3 ∧ l ≠ []) ∨ (S'.phase ≠ 3 ∧ ∃ e, orig[S'.next]? = some e ∧ phK e.kind = S'.phase) ∨ (S'.phase = 4 ∧ S'.next = orig.length)) := by
  unfold Go.Proofs.Ytkknhcdjdcpfcaa.settle1 at hs
  by_cases h3 : S.phase = 3
  · rw [if_pos h3] at hs
    by_cases hl : l = []
    · rw [decide_eq_true hl, if_pos rfl] at hs
      simp only [Prod.mk.injEq] at hs
      obtain ⟨rfl, rfl⟩ := hs
      refine ⟨⟨by show (1 : Int) ≤ 4 ∧ (4 : Int) ≤ 4; decide, Nat.zero_le _, fun i e he => ?_, j.len, ?_, j.mkk, j.mono, fun h => absurd h (by show ¬ (4 : Int) = 1; decide), fun h => absurd h (by show ¬ (4 : Int) = 2; decide), fun _ => j.p3 (by omega), fun _ => hl⟩, fun h => by cases h⟩
      · rw [j.ents i e he, h3]
        have hko := (c.ents e (List.mem_of_getElem? he)).kind
        have : doneB 3 S.next i e = doneB 4 0 i e := by
          unfold doneB phK
          rcases hko with h | h | h <;> rw [h] <;> simp
        show some (entJ lv al 3 S.next i e) = some (entJ lv al 4 0 i e)
        unfold entJ
        rw [this]
      · show S.queue = tagsOf lv (orig.take (if (4 : Int) = 1 then 0 else if (4 : Int) = 2 then 0 else orig.length))
        rw [j.queue, h3]; rfl
    · rw [decide_eq_false hl] at hs
      simp only [Bool.false_eq_true, if_false, Prod.mk.injEq] at hs
      obtain ⟨rfl, rfl⟩ := hs
      exact ⟨j, fun _ => .inl ⟨h3, hl⟩⟩
  · rw [if_neg h3] at hs
    have ja := j.adv c h3
    have hph : S.phase = 1 ∨ S.phase = 2 ∨ S.phase = 4 := by have := j.ph; omega
    obtain ⟨a1, a2, a3, a4⟩ := adv_spec (ents := S.ents) (kd := kindP S.phase) (j := S.next) (by rw [j.len]; exact j.nx)
    by_cases hc : advP S.ents (kindP S.phase) S.next < S.ents.length ∨ S.phase = 4
    · rw [if_pos hc] at hs
      simp only [Prod.mk.injEq] at hs
      obtain ⟨rfl, rfl⟩ := hs
      refine ⟨ja, fun _ => .inr ?_⟩
      by_cases hlt : advP S.ents (kindP S.phase) S.next < orig.length
      · obtain ⟨e, he⟩ : ∃ e, orig[advP S.ents (kindP S.phase) S.next]? = some e := ⟨orig[advP S.ents (kindP S.phase) S.next], by simp⟩
        obtain ⟨e', he', hk'⟩ := j.orig_kind he
        have := a4 e' he'
        rw [hk'] at this
        exact .inl ⟨h3, e, he, (kindP_phK hph (c.ents e (List.mem_of_getElem? he)).kind).1 this⟩
      · refine .inr ⟨?_, ?_⟩
        · rcases hc with h | h
          · rw [j.len] at h; exact absurd h hlt
          · exact h
        · show advP S.ents (kindP S.phase) S.next = orig.length
          rw [j.len] at a2; omega
    · rw [if_neg hc] at hs
      have hend : advP S.ents (kindP S.phase) S.next = orig.length := by rw [j.len] at a2 hc; omega
      rw [hend] at ja
      by_cases hp1 : S.phase = 1
      · rw [if_pos hp1] at hs
        simp only [Prod.mk.injEq] at hs
        obtain ⟨rfl, rfl⟩ := hs
        obtain ⟨hl, hcol⟩ := j.p1 hp1
        subst hcol
        refine ⟨⟨by show (1 : Int) ≤ 2 ∧ (2 : Int) ≤ 4; decide, Nat.zero_le _, fun i e he => ?_, j.len, ?_, j.mkk, j.mono, fun h => absurd h (by show ¬ (2 : Int) = 1; decide), fun _ => ⟨by show some _ ≠ none; simp, fun i e he => ?_, fun i e hi => absurd hi (Nat.not_lt_zero _)⟩, fun h => absurd h (by show ¬ (3 : Int) ≤ 2; decide), fun h => absurd h (by show ¬ (2 : Int) = 4; decide)⟩, fun h => by cases h⟩
        · have := ja.ents i e he
          rw [show S.ents[i]? = _ from this]
          have hi := (List.getElem?_eq_some_iff.1 he).1
          have hko := (c.ents e (List.mem_of_getElem? he)).kind
          have : doneB S.phase orig.length i e = doneB 2 0 i e := by
            unfold doneB phK
            rw [hp1]
            rcases hko with h | h | h <;> rw [h] <;> simp [hi]
          show some (entJ lv al S.phase orig.length i e) = some (entJ lv al 2 0 i e)
          unfold entJ
          rw [this]
        · show S.queue = tagsOf lv (orig.take (if (2 : Int) = 1 then 0 else if (2 : Int) = 2 then 0 else orig.length))
          rw [j.queue, hp1]; rfl
        · have hi := (List.getElem?_eq_some_iff.1 he).1
          have hen := j.ents i e he
          have heo := c.ents e (List.mem_of_getElem? he)
          have hg : S.ents.getD i default = entJ lv al S.phase S.next i e := by rw [List.getD_eq_getElem?_getD, hen]; rfl
          show (foundP S.ents (whiteP H col) S.ents.length (i : Int)).getD false = _
          unfold foundP
          rw [if_pos (by rw [j.len]; omega), Int.toNat_natCast, hg, Option.getD_some, entJ_kind]
          by_cases hk2 : e.kind = 2
          · have : entJ lv al S.phase S.next i e = e := by
              unfold entJ doneB phK
              rw [hp1, hk2]; simp
            rw [this, lv_white c heo]
          · rw [decide_eq_false hk2]; simp
      · rw [if_neg hp1] at hs
        simp only [Prod.mk.injEq] at hs
        obtain ⟨rfl, rfl⟩ := hs
        have hp2 : S.phase = 2 := by omega
        refine ⟨⟨by show (1 : Int) ≤ S.phase + 1 ∧ S.phase + 1 ≤ 4; omega, Nat.zero_le _, fun i e he => ?_, j.len, ?_, j.mkk, j.mono, fun h => absurd h (by show ¬ S.phase + 1 = 1; omega), fun h => absurd h (by show ¬ S.phase + 1 = 2; omega), fun _ i e he hk => ?_, fun h => absurd h (by show ¬ S.phase + 1 = 4; omega)⟩, fun h => by cases h⟩
        · have := ja.ents i e he
          rw [show S.ents[i]? = _ from this]
          have hi := (List.getElem?_eq_some_iff.1 he).1
          have hko := (c.ents e (List.mem_of_getElem? he)).kind
          have : doneB S.phase orig.length i e = doneB (S.phase + 1) 0 i e := by
            unfold doneB phK
            rw [hp2]
            rcases hko with h | h | h <;> rw [h] <;> simp [hi]
          show some (entJ lv al S.phase orig.length i e) = some (entJ lv al (S.phase + 1) 0 i e)
          unfold entJ
          rw [this]
        · have hq : S.queue = _ := ja.queue
          show S.queue = tagsOf lv (orig.take (if S.phase + 1 = 1 then 0 else if S.phase + 1 = 2 then 0 else orig.length))
          rw [hq, if_neg (show ¬ ({ S with next := orig.length } : TS).phase = 1 from hp1), if_pos (show ({ S with next := orig.length } : TS).phase = 2 from hp2), if_neg (by omega), if_neg (by omega)]
        · have := (ja.p2 hp2).2.2 i e (List.getElem?_eq_some_iff.1 he).1 he hk
          exact this
end
end Go.Proofs.Ytkknhcdjdcpfcaa
namespace Go.Proofs.Ytkknhcdjdcpfcaa
open Go.Sl Go.Iso
set_option linter.all false

def Ms (N : Nat) (orig : List Ent) (S : TS) (col : Col) : Nat := (4 - S.phase).toNat * 200 + (if S.phase = 3 then nb N col else orig.length - S.next)
section
variable {H : HS} {N : Nat} {Rt : Int → Prop} {orig : List Ent} {col1 : Col} {lv al : Int → Bool} {S : TS} {col : Col} {l : List Int}
theorem Ms_le (c : Ctx H N Rt orig col1 lv al) (S : TS) (col : Col) : Ms N orig S col ≤ (4 - S.phase).toNat * 200 + 101 := by
  unfold Ms
  have h1 := nb_le N col
  have h2 := c.gr.small
  have h3 := c.few
  split <;> omega
theorem settle1_same {dn : Bool} {w : Int → Bool} {S' : TS} (hn : S.next ≤ S.ents.length) (hs : settle1 dn w S = (S', true)) : S'.phase = S.phase ∧ (S.phase = 3 → S' = S) ∧ S.next ≤ S'.next := by
  unfold settle1 at hs
  split at hs
  · split at hs
    · cases hs
    · cases hs; exact ⟨rfl, fun _ => rfl, Nat.le_refl _⟩
  · rename_i h3
    split at hs
    · cases hs
      exact ⟨rfl, fun h => absurd h h3, (adv_spec hn).1⟩
    · split at hs <;> cases hs
theorem J.ok (c : Ctx H N Rt orig col1 lv al) (j : J H Rt orig col1 lv al S col l) : TsOk S := ⟨j.ph, by rw [j.len]; exact j.nx, by rw [j.len]; have := c.few; omega⟩
def Stop (orig : List Ent) (l : List Int) (S : TS) : Prop := (S.phase = 3 ∧ l ≠ []) ∨ (S.phase ≠ 3 ∧ ∃ e, orig[S.next]? = some e ∧ phK e.kind = S.phase) ∨ (S.phase = 4 ∧ S.next = orig.length)
theorem settles_ex (c : Ctx H N Rt orig col1 lv al) : ∀ (d : Nat) {S : TS}, (4 - S.phase).toNat ≤ d → J H Rt orig col1 lv al S col l →
    ∃ S', Settles (decide (l = [])) (whiteP H col) S S' ∧ J H Rt orig col1 lv al S' col l ∧ Stop orig l S' ∧ Ms N orig S' col ≤ Ms N orig S col := by
  intro d
  induction d with
  | zero =>
    intro S hd j
    cases hs : settle1 (decide (l = [])) (whiteP H col) S with
    | mk S' b =>
      obtain ⟨j', hb⟩ := j.settle1 c hs
      have hok := settle1_ok (j.ok c) hs
      cases b with
      | false =>
        have h1 := hok.2.2.2 rfl
        have h2 := j'.ph
        have h3 := j.ph
        omega
      | true =>
        obtain ⟨e1, e2, e3⟩ := settle1_same (by rw [j.len]; exact j.nx) hs
        refine ⟨S', .stop hs, j', hb rfl, ?_⟩
        unfold Ms
        rw [e1]
        by_cases h3 : S.phase = 3
        · rw [if_pos h3, if_pos h3]; exact Nat.le_refl _
        · rw [if_neg h3, if_neg h3]; omega
  | succ d ih =>
    intro S hd j
    cases hs : settle1 (decide (l = [])) (whiteP H col) S with
    | mk S' b =>
      obtain ⟨j', hb⟩ := j.settle1 c hs
      have hok := settle1_ok (j.ok c) hs
      cases b with
      | false =>
        have h1 := hok.2.2.2 rfl
        have h2 := j'.ph
        have h3 := j.ph
        obtain ⟨S2, a1, a2, a3, a4⟩ := ih (S := S') (by omega) j'
        refine ⟨S2, .more hs a1, a2, a3, Nat.le_trans a4 (Nat.le_trans (Ms_le c S' col) ?_)⟩
        unfold Ms
        omega
      | true =>
        obtain ⟨e1, e2, e3⟩ := settle1_same (by rw [j.len]; exact j.nx) hs
        refine ⟨S', .stop hs, j', hb rfl, ?_⟩
        unfold Ms
        rw [e1]
        by_cases h3 : S.phase = 3
        · rw [if_pos h3, if_pos h3]; exact Nat.le_refl _
        · rw [if_neg h3, if_neg h3]; omega
theorem entJ_other {ph : Int} {nx i : Nat} {e : Ent} (h : i ≠ nx) : entJ lv al ph (nx + 1) i e = entJ lv al ph nx i e := by
  unfold entJ doneB
  by_cases hi : i < nx
  · rw [decide_eq_true hi, decide_eq_true (show i < nx + 1 by omega)]
  · rw [decide_eq_false hi, decide_eq_false (show ¬ i < nx + 1 by omega)]
theorem entJ_self {ph : Int} {nx : Nat} {e : Ent} (h : phK e.kind = ph) : entJ lv al ph (nx + 1) nx e = if clrB lv al e = true then { e with target := 0 } else e := by
  have : doneB ph (nx + 1) nx e = true := by unfold doneB; rw [decide_eq_true h, decide_eq_true (Nat.lt_succ_self nx)]; simp
  unfold entJ
  rw [this]; simp
theorem entJ_now {ph : Int} {nx : Nat} {e : Ent} (h : phK e.kind = ph) : entJ lv al ph nx nx e = e := by
  have : doneB ph nx nx e = false := by unfold doneB; rw [decide_eq_false (show ¬ phK e.kind < ph by omega), decide_eq_false (Nat.lt_irrefl nx)]; simp
  unfold entJ
  rw [this]; simp
/-- The entries behind a step. -/
theorem ents_next (j : J H Rt orig col1 lv al S col l) {e : Ent} (he : orig[S.next]? = some e) (hk : phK e.kind = S.phase) {es : List Ent} (hes : es = if clrB lv al e = true then S.ents.set S.next { e with target := 0 } else S.ents) :
    (∀ (i : Nat) (e : Ent), orig[i]? = some e → es[i]? = some (entJ lv al S.phase (S.next + 1) i e)) ∧ es.length = orig.length := by
  have hlt := (List.getElem?_eq_some_iff.1 he).1
  have hen : S.ents[S.next]? = some e := by rw [j.ents _ e he, entJ_now hk]
  subst hes
  refine ⟨fun i e' he' => ?_, ?_⟩
  · by_cases hi : i = S.next
    · subst hi
      rw [he] at he'; cases he'
      rw [entJ_self hk]
      split
      · rw [List.getElem?_set_self (by rw [j.len]; exact hlt)]
      · exact hen
    · rw [entJ_other hi, ← j.ents i e' he']
      split
      · rw [List.getElem?_set_ne (Ne.symm hi)]
      · rfl
  · split
    · rw [List.length_set]; exact j.len
    · exact j.len
/-- The step of an entry. -/
theorem J.entry (c : Ctx H N Rt orig col1 lv al) (j : J H Rt orig col1 lv al S col l) (h3 : S.phase ≠ 3) {e : Ent} (he : orig[S.next]? = some e) (hk : phK e.kind = S.phase) :
    J H Rt orig col1 lv al (stepE H col l S e).1 (stepE H col l S e).2.1 (stepE H col l S e).2.2 ∧ (stepE H col l S e).1.phase = S.phase ∧ (stepE H col l S e).1.next = S.next + 1 := by
  have hlt := (List.getElem?_eq_some_iff.1 he).1
  have heo := c.ents e (List.mem_of_getElem? he)
  have hem := List.mem_of_getElem? he
  have hph := j.ph
  have htk : orig.take (S.next + 1) = orig.take S.next ++ [e] := by rw [List.take_add_one, he]; rfl
  by_cases hp2 : S.phase = 2
  · have hk2 : e.kind = 2 := by
      rw [hp2] at hk
      unfold phK at hk
      split at hk <;> omega
    obtain ⟨f1, f2, f3⟩ := j.p2 hp2
    have hfb := f2 _ e he
    rw [decide_eq_true hk2, Bool.true_and] at hfb
    have hcl : clrB lv al e = !lv e.target := by unfold clrB; rw [if_neg (by omega)]
    cases hlv : lv e.target with
    | true =>
      rw [hlv] at hfb hcl
      have e2 : stepE H col l S e = ({ S with next := S.next + 1 }, col, l) := by rw [stepE, if_pos hp2, if_neg (by rw [hfb]; decide)]
      rw [e2]
      obtain ⟨g1, g2⟩ := ents_next j he hk (es := S.ents) (by rw [hcl]; rfl)
      refine ⟨⟨j.ph, hlt, g1, g2, ?_, j.mkk, j.mono, j.p1, fun _ => ⟨f1, f2, fun i e' hi he' hk' => ?_⟩, j.p3, j.p4⟩, rfl, rfl⟩
      · show S.queue = tagsOf lv (orig.take (if S.phase = 1 then 0 else if S.phase = 2 then S.next + 1 else orig.length))
        rw [j.queue, if_neg (by omega), if_pos hp2, if_neg (by omega), if_pos hp2, htk]
        simp [tagsOf, List.filter_append, hlv]
      · rcases Nat.lt_or_ge i S.next with h | h
        · exact f3 i e' h he' hk'
        · have hi' : i < S.next + 1 := hi
          have : i = S.next := by omega
          subst this; rw [he] at he'; cases he'
          exact j.mono _ ((c.lv _).1 hlv)
    | false =>
      rw [hlv] at hfb hcl
      have e2 : stepE H col l S e = ({ S with ents := S.ents.set S.next { e with target := 0 }, queue := S.queue ++ [e.tag], next := S.next + 1 }, (shadeP H (col, l) e.target).1, (shadeP H (col, l) e.target).2) := by rw [stepE, if_pos hp2, if_pos (by rw [hfb]; rfl)]
      rw [e2]
      obtain ⟨g1, g2⟩ := ents_next j he hk (es := S.ents.set S.next { e with target := 0 }) (by rw [hcl]; rfl)
      obtain ⟨m1, a1, b1, c1⟩ := shade_mk j.mkk (fun h0 hu => Rch.root (c.fin e hem hk2) hu h0)
      have hmono : ∀ k, cl col k ≠ 0 → cl (shadeP H (col, l) e.target).1 k ≠ 0 := fun k hk => by rw [a1 k hk]; exact hk
      refine ⟨⟨j.ph, hlt, g1, g2, ?_, m1, fun k hk => hmono k (j.mono k hk), fun h => absurd h (by show ¬ S.phase = 1; omega), fun _ => ⟨f1, f2, fun i e' hi he' hk' => ?_⟩, fun h => absurd h (by show ¬ 3 ≤ S.phase; omega), fun h => absurd h (by show ¬ S.phase = 4; omega)⟩, rfl, rfl⟩
      · show S.queue ++ [e.tag] = tagsOf lv (orig.take (if S.phase = 1 then 0 else if S.phase = 2 then S.next + 1 else orig.length))
        rw [j.queue, if_neg (by omega), if_pos hp2, if_neg (by omega), if_pos hp2, htk]
        simp [tagsOf, List.filter_append, hlv, hk2]
      · rcases Nat.lt_or_ge i S.next with h | h
        · exact hmono _ (f3 i e' h he' hk')
        · have hi' : i < S.next + 1 := hi
          have : i = S.next := by omega
          subst this; rw [he] at he'; cases he'
          exact c1 heo.pos heo.used
  · -- weak and late entries
    have hl : l = [] := by
      by_cases hp1 : S.phase = 1
      · exact (j.p1 hp1).1
      · exact j.p4 (by omega)
    have hw : whiteP H col e.target = clrB lv al e := by
      by_cases hp1 : S.phase = 1
      · have hk1 : e.kind = 1 := by
          rw [hp1] at hk
          unfold phK at hk
          split at hk <;> omega
        rw [(j.p1 hp1).2, lv_white c heo]
        unfold clrB; rw [if_neg (by omega)]
      · have hp4 : S.phase = 4 := by omega
        have hk3 : e.kind = 3 := by
          rw [hp4] at hk
          unfold phK at hk
          split at hk
          · assumption
          · rcases heo.kind with h | h | h <;> omega
        have m0 := j.mkk
        rw [hl] at m0
        have hb := black_iff m0 (fun k h1 h2 h3 => by
          rcases c.roots k h1 h2 h3 with h | ⟨e', he', hk', ht'⟩
          · exact j.mono k h
          · obtain ⟨i, hi, hie⟩ := List.mem_iff_getElem.1 he'
            rw [← ht']
            exact j.p3 (by omega) i e' (by rw [List.getElem?_eq_getElem hi, hie]) hk') e.target
        unfold whiteP clrB
        rw [if_pos hk3, decide_eq_true heo.pos, heo.used]
        cases ha : al e.target with
        | true =>
          have := hb.1 ((c.al _).1 ha)
          rw [decide_eq_false this]; rfl
        | false =>
          rw [decide_eq_true]; rfl
          exact Classical.byContradiction fun h => by rw [(c.al _).2 (hb.2 h)] at ha; cases ha
    cases hcl : clrB lv al e with
    | true =>
      rw [hcl] at hw
      have e2 : stepE H col l S e = ({ S with ents := S.ents.set S.next { e with target := 0 }, next := S.next + 1 }, col, l) := by rw [stepE, if_neg hp2, if_pos hw]
      rw [e2]
      obtain ⟨g1, g2⟩ := ents_next j he hk (es := S.ents.set S.next { e with target := 0 }) (by rw [hcl]; rfl)
      refine ⟨⟨j.ph, hlt, g1, g2, ?_, j.mkk, j.mono, j.p1, fun h => absurd h hp2, j.p3, j.p4⟩, rfl, rfl⟩
      show S.queue = tagsOf lv (orig.take (if S.phase = 1 then 0 else if S.phase = 2 then S.next + 1 else orig.length))
      rw [j.queue, if_neg hp2, if_neg hp2]
    | false =>
      rw [hcl] at hw
      have e2 : stepE H col l S e = ({ S with next := S.next + 1 }, col, l) := by rw [stepE, if_neg hp2, if_neg (by rw [hw]; decide)]
      rw [e2]
      obtain ⟨g1, g2⟩ := ents_next j he hk (es := S.ents) (by rw [hcl]; rfl)
      refine ⟨⟨j.ph, hlt, g1, g2, ?_, j.mkk, j.mono, j.p1, fun h => absurd h hp2, j.p3, j.p4⟩, rfl, rfl⟩
      show S.queue = tagsOf lv (orig.take (if S.phase = 1 then 0 else if S.phase = 2 then S.next + 1 else orig.length))
      rw [j.queue, if_neg hp2, if_neg hp2]
/-- What the phases leave. -/
structure Left (orig : List Ent) (lv al : Int → Bool) (S : TS) : Prop where
  len : S.ents.length = orig.length
  ents : ∀ (i : Nat) (e : Ent), orig[i]? = some e → S.ents[i]? = some (if clrB lv al e = true then { e with target := 0 } else e)
  queue : S.queue = tagsOf lv orig
theorem fins_ex (c : Ctx H N Rt orig col1 lv al) : ∀ (d : Nat) {S : TS} {col : Col} {l : List Int}, Ms N orig S col ≤ d → J H Rt orig col1 lv al S col l → ∃ n S' col' l', n ≤ d ∧ Fins H S col l n S' col' l' ∧ Left orig lv al S' := by
  intro d
  induction d using Nat.strongRecOn with
  | _ d ih =>
    intro S col l hd j
    obtain ⟨S1, hs, j1, hstop, hm⟩ := settles_ex c _ (Nat.le_refl _) j
    have hq1 : S1.queue.length ≤ 10000 := by
      rw [j1.queue]
      unfold tagsOf
      rw [List.length_map]
      have h1 := List.length_filter_le (fun e : Ent => decide (e.kind = 2) && !lv e.target) (orig.take (if S1.phase = 1 then 0 else if S1.phase = 2 then S1.next else orig.length))
      have h2 := c.few
      have h3 := List.length_take_le (if S1.phase = 1 then 0 else if S1.phase = 2 then S1.next else orig.length) orig
      have h4 : (orig.take (if S1.phase = 1 then 0 else if S1.phase = 2 then S1.next else orig.length)).length ≤ orig.length := by rw [List.length_take]; omega
      omega
    rcases hstop with ⟨h3, hne⟩ | ⟨h3, e, he, hk⟩ | ⟨h4, hnx⟩
    · cases l with
      | nil => exact absurd rfl hne
      | cons x r =>
        have hx1 : cl col x = 1 := (j1.mkk.mem x).1 (List.mem_cons_self ..)
        have hxr : Rch H Rt x := j1.mkk.sub x (by rw [hx1]; decide)
        obtain ⟨X, hX⟩ : ∃ X, lookT H.ths x = some X := Option.isSome_iff_exists.1 (rch_used c.gr hxr).1
        obtain ⟨m1, a1, b1⟩ := step_mk c.gr j1.mkk hX
        have hlen := mk_len c.gr j1.mkk
        have j2 : J H Rt orig col1 lv al S1 (stepP H col x r X).1 (stepP H col x r X).2 :=
          ⟨j1.ph, j1.nx, j1.ents, j1.len, j1.queue, m1, fun k hk => a1 k (j1.mono k hk), fun h => absurd h (by omega), fun h => absurd h (by omega), fun h i e he hk => a1 _ (j1.p3 h i e he hk), fun h => absurd h (by omega)⟩
        obtain ⟨S2, hs2, j3, _, hm2⟩ := settles_ex c _ (Nat.le_refl _) j2
        have hlt : Ms N orig S2 (stepP H col x r X).1 < d := by
          have : Ms N orig S1 (stepP H col x r X).1 < Ms N orig S1 col := by
            unfold Ms; rw [if_pos h3, if_pos h3]; omega
          omega
        obtain ⟨n, S', col', l', hn, hF, hL⟩ := ih _ hlt (Nat.le_refl _) j3
        exact ⟨n + 1, S', col', l', by omega, .more (.mark (by simpa using hs) h3 hX (c.gr.ths x X hX) (by omega) hs2) hF, hL⟩
    · have hlt0 := (List.getElem?_eq_some_iff.1 he).1
      have hen : S1.ents[S1.next]? = some e := by rw [j1.ents _ e he, entJ_now hk]
      obtain ⟨j2, e1, e2⟩ := j1.entry c h3 he hk
      obtain ⟨S2, hs2, j3, _, hm2⟩ := settles_ex c _ (Nat.le_refl _) j2
      have hll := mk_len c.gr j1.mkk
      have hlt : Ms N orig S2 (stepE H col l S1 e).2.1 < d := by
        have : Ms N orig (stepE H col l S1 e).1 (stepE H col l S1 e).2.1 < Ms N orig S1 col := by
          unfold Ms; rw [e1, e2, if_neg h3, if_neg h3]; omega
        omega
      obtain ⟨n, S', col', l', hn, hF, hL⟩ := ih _ hlt (Nat.le_refl _) j3
      exact ⟨n + 1, S', col', l', by omega, .more (.entry hs h3 hen (fun h => ⟨(j1.p2 h).1, .inr (c.ents e (List.mem_of_getElem? he)).used⟩) (by omega) hq1 hs2) hF, hL⟩
    · refine ⟨0, _, _, _, Nat.zero_le _, .over (.over hs (by omega) (by rw [j1.len, hnx]; exact Nat.le_refl _)), ⟨j1.len, fun i e he => ?_, ?_⟩⟩
      · have := j1.ents i e he
        rw [h4, hnx] at this
        rw [show ({ S1 with phase := 0, next := 0, found := none } : TS).ents = S1.ents from rfl, this]
        have hi := (List.getElem?_eq_some_iff.1 he).1
        have hko := (c.ents e (List.mem_of_getElem? he)).kind
        have hd : doneB 4 orig.length i e = true := by
          unfold doneB phK
          rcases hko with h | h | h <;> rw [h] <;> simp [hi]
        unfold entJ
        rw [hd]; simp
      · show S1.queue = _
        rw [j1.queue, h4, if_neg (by decide), if_neg (by decide), List.take_of_length_le (Nat.le_refl _)]
end
end Go.Proofs.Ytkknhcdjdcpfcaa
