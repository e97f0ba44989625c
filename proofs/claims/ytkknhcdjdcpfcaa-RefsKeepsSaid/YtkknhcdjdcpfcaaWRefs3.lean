/- Walks of package refs: settle. -/
import Derived.Test.YtkknhcdjdcpfcaaInst
import Derived.Test.YtkknhcdjdcpfcaaXRf
namespace Go.Proofs.Ytkknhcdjdcpfcaa
open Go.Sl Go.Iso
set_option linter.all false

/-- The first entry of a kind from an index on. -/
def advP (ents : List Ent) (kd : Int) (j : Nat) : Nat := j + (ents.drop j).findIdx fun e => decide (e.kind = kd)
theorem adv_stop {ents : List Ent} {kd : Int} {j : Nat} {e : Ent} (h : ents[j]? = some e) (hk : e.kind = kd) : advP ents kd j = j := by
  obtain ⟨hlt, he⟩ := List.getElem?_eq_some_iff.1 h
  rw [advP, List.drop_eq_getElem_cons hlt, List.findIdx_cons, he]
  simp [hk]
theorem adv_more {ents : List Ent} {kd : Int} {j : Nat} {e : Ent} (h : ents[j]? = some e) (hk : ¬ e.kind = kd) : advP ents kd j = advP ents kd (j + 1) := by
  obtain ⟨hlt, he⟩ := List.getElem?_eq_some_iff.1 h
  rw [advP, List.drop_eq_getElem_cons hlt, List.findIdx_cons, he]
  simp [hk, advP]; omega
theorem adv_end {ents : List Ent} {kd : Int} {j : Nat} (h : ents.length ≤ j) : advP ents kd j = j := by
  rw [advP, List.drop_of_length_le h]; rfl
theorem adv_le {ents : List Ent} {kd : Int} {j : Nat} (h : j ≤ ents.length) : advP ents kd j ≤ ents.length := by
  have := List.findIdx_le_length (p := fun e : Ent => decide (e.kind = kd)) (xs := ents.drop j)
  rw [List.length_drop] at this
  rw [advP]; omega
/-- Which finals have white targets, of the first so many entries. -/
def foundP (ents : List Ent) (w : Int → Bool) (j : Nat) : Int → Option Bool := fun k => if 0 ≤ k ∧ k < (j : Int) then some (decide ((ents.getD k.toNat default).kind = 2) && w (ents.getD k.toNat default).target) else none
theorem foundP_next {ents : List Ent} {w : Int → Bool} {j : Nat} {e : Ent} (h : ents[j]? = some e) :
    mset (fun k => (foundP ents w j k).map Value.bool) (j : Int) (.bool (decide (e.kind = 2) && w e.target)) = fun k => (foundP ents w (j + 1) k).map Value.bool := by
  funext k
  simp only [mset]
  by_cases hk : k = (j : Int)
  · subst hk
    have e1 : ents.getD j default = e := by rw [List.getD_eq_getElem?_getD, h]; rfl
    have e2 : (0 : Int) ≤ (j : Int) ∧ (j : Int) < ((j + 1 : Nat) : Int) := by omega
    simp only [if_true, foundP, if_pos e2, Int.toNat_natCast, e1, Option.map_some]
  · rw [if_neg hk]
    simp only [foundP]
    by_cases h1 : 0 ≤ k ∧ k < (j : Int)
    · rw [if_pos h1, if_pos (by omega)]
    · rw [if_neg h1, if_neg (by omega)]
/-- A round of settle: what it leaves, and whether it is the last. -/
def settle1 (dn : Bool) (w : Int → Bool) (S : TS) : TS × Bool :=
  if S.phase = 3 then if dn = true then ({ S with phase := 4, next := 0 }, false) else (S, true)
  else if advP S.ents (kindP S.phase) S.next < S.ents.length ∨ S.phase = 4 then ({ S with next := advP S.ents (kindP S.phase) S.next }, true)
  else if S.phase = 1 then ({ S with phase := 2, next := 0, found := some (foundP S.ents w S.ents.length) }, false)
  else ({ S with phase := S.phase + 1, next := 0 }, false)
inductive Settles (dn : Bool) (w : Int → Bool) : TS → TS → Prop
  | stop {S S' : TS} : settle1 dn w S = (S', true) → Settles dn w S S'
  | more {S S1 S' : TS} : settle1 dn w S = (S1, false) → Settles dn w S1 S' → Settles dn w S S'
structure TsOk (S : TS) : Prop where
  phase : 1 ≤ S.phase ∧ S.phase ≤ 4
  next : S.next ≤ S.ents.length
  room : S.ents.length ≤ 100
theorem settle1_ok {dn : Bool} {w : Int → Bool} {S S' : TS} {b : Bool} (h : TsOk S) (hs : settle1 dn w S = (S', b)) : TsOk S' ∧ S'.ents = S.ents ∧ S'.queue = S.queue ∧ (b = false → S.phase < S'.phase) := by
  have hp := h.phase
  have hn := h.next
  have hr := h.room
  unfold settle1 at hs
  split at hs
  · split at hs
    · simp only [Prod.mk.injEq] at hs; obtain ⟨rfl, rfl⟩ := hs
      exact ⟨⟨⟨by show (1 : Int) ≤ 4; omega, by show (4 : Int) ≤ 4; omega⟩, Nat.zero_le _, hr⟩, rfl, rfl, fun _ => by show S.phase < 4; omega⟩
    · simp only [Prod.mk.injEq] at hs; obtain ⟨rfl, rfl⟩ := hs
      exact ⟨h, rfl, rfl, fun h => by cases h⟩
  · split at hs
    · simp only [Prod.mk.injEq] at hs; obtain ⟨rfl, rfl⟩ := hs
      exact ⟨⟨hp, adv_le hn, hr⟩, rfl, rfl, fun h => by cases h⟩
    · split at hs
      · simp only [Prod.mk.injEq] at hs; obtain ⟨rfl, rfl⟩ := hs
        exact ⟨⟨⟨by show (1 : Int) ≤ 2; omega, by show (2 : Int) ≤ 4; omega⟩, Nat.zero_le _, hr⟩, rfl, rfl, fun _ => by show S.phase < 2; omega⟩
      · simp only [Prod.mk.injEq] at hs; obtain ⟨rfl, rfl⟩ := hs
        rename_i h3 h4 h1
        exact ⟨⟨⟨by show (1 : Int) ≤ S.phase + 1; omega, by show S.phase + 1 ≤ 4; omega⟩, Nat.zero_le _, hr⟩, rfl, rfl, fun _ => by show S.phase < S.phase + 1; omega⟩
set_option maxHeartbeats 2000000 in
theorem tabSettle {t m h : Nat} {S S' : TS} {H : HS} {col : Col} {l : List Int} (hok : TsOk S) (hS : Settles (decide (l = [])) (whiteP H col) S S') :
    C Try.prog 32 [.pointer (some ⟨t, 0, none⟩), .pointer (some ⟨m, 0, none⟩)] [tabA t S, markA m h col l, heapA h H]
      (fun v L' => v = .tuple #[] ∧ L' = [tabA t S', markA m h col l, heapA h H]) := by
  refine C_enter2 Try.func32 rfl rfl rfl fun β F => ?_
  refine go ?_
  refine WT_keep [4, 0, 1] rfl ?_
  refine WT_loopM (fun S => (5 - S.phase).toNat) (fun S => TsOk S ∧ Settles (decide (l = [])) (whiteP H col) S S') (fun _ => [(4, .pointer (some ⟨t, 0 + 3, none⟩)), (0, .pointer (some ⟨t, 0, none⟩)), (1, .pointer (some ⟨m, 0, none⟩))])
    (fun S => [tabA t S, markA m h col l, heapA h H]) ?_ S ⟨hok, hS⟩
  intro S ⟨hok, hS⟩ ih
  have hp := hok.phase
  have hnx := hok.next
  have hrm := hok.room
  refine st_tab .here fun pe ne ce pq nq cq fv hne hnq => ?_
  by_cases h3 : S.phase = 3
  · have e1 : settle1 (decide (l = [])) (whiteP H col) S = if decide (l = []) = true then ({ S with phase := 4, next := 0 }, false) else (S, true) := by rw [settle1, if_pos h3]
    refine go ?_
    refine call (markDone (m := m) (h := h) (col := col) (l := l)) ?_
    rintro _ _ ⟨rfl, rfl⟩
    cases hd : decide (l = []) with
    | false =>
      have e2 : settle1 (decide (l = [])) (whiteP H col) S = (S, true) := by rw [e1, hd]; rfl
      have e3 : S' = S := by
        cases hS with
        | stop hs => rw [e2] at hs; cases hs; rfl
        | more hs _ => rw [e2] at hs; cases hs
      subst e3
      refine go ?_
      refine st_toTab (t := t) (S := S') (ev := .slice pe ne ce) (qv := .slice pq nq cq) (fv := fv) ?_
      refine pick (As := [tabA t S', markA m h col l, heapA h H]) ?_
      refine WT_ret (rs := []) Try.func32 rfl rfl ⟨rfl, rfl⟩
    | true =>
      have e2 : settle1 (decide (l = [])) (whiteP H col) S = ({ S with phase := 4, next := 0 }, false) := by rw [e1, hd]; rfl
      have hok2 := (settle1_ok hok e2).1
      have hS2 : Settles (decide (l = [])) (whiteP H col) { S with phase := 4, next := 0 } S' := by
        cases hS with
        | stop hs => rw [e2] at hs; cases hs
        | more hs k => rw [e2] at hs; cases hs; exact k
      refine go ?_
      rw [show S.phase + 1 = 4 by omega]
      refine WO_store rfl rfl rfl rfl rfl updA (.succ (.succ (.succ .zero))) rfl rfl ?_
      refine go ?_
      refine WO_store rfl rfl rfl rfl rfl updA (.succ (.succ (.succ (.succ .zero)))) rfl rfl ?_
      refine go ?_
      refine WT_keep [4, 0, 1] rfl ?_
      refine st_toTab (t := t) (S := { S with phase := 4, next := 0 }) (ev := .slice pe ne ce) (qv := .slice pq nq cq) (fv := fv) ?_
      refine pick (As := [tabA t { S with phase := 4, next := 0 }, markA m h col l, heapA h H]) ?_
      exact ih _ (by show (5 - (4 : Int)).toNat < (5 - S.phase).toNat; rw [h3]; decide) ⟨hok2, hS2⟩
  · refine go ?_
    refine WT_keep [4, 0, 1] rfl ?_
    refine pickN (As := [tabC t (.slice pe ne ce) (.slice pq nq cq) fv S.phase S.next, ownS 81 3 (.slice pe ne ce) (encEs S.ents), ownS 3 1 (.slice pq nq cq) (S.queue.map encI), foundA fv S.found, markA m h col l, heapA h H]) ?_
    refine WT_loopN S.ents.length (fun j => S.next ≤ j ∧ advP S.ents (kindP S.phase) j = advP S.ents (kindP S.phase) S.next) (fun _ => [(4, .pointer (some ⟨t, 0 + 3, none⟩)), (0, .pointer (some ⟨t, 0, none⟩)), (1, .pointer (some ⟨m, 0, none⟩))])
      (fun j => [tabC t (.slice pe ne ce) (.slice pq nq cq) fv S.phase j, ownS 81 3 (.slice pe ne ce) (encEs S.ents), ownS 3 1 (.slice pq nq cq) (S.queue.map encI), foundA fv S.found, markA m h col l, heapA h H]) ?_ S.next hnx ⟨Nat.le_refl _, rfl⟩
    intro j hj hpj ih2
    by_cases hlt : j < S.ents.length
    · obtain ⟨e, he⟩ : ∃ e, S.ents[j]? = some e := ⟨S.ents[j], by simp⟩
      refine st_own (T := 81) (sz := 3) (l := encEs S.ents) (s := .slice pe ne ce) remA (fun hs h0 => ?_) (fun bb Nb cb spb hv hlb hspb hcb => ?_)
      · cases hs; omega
      cases hv
      have hat : (encEs S.ents ++ spb)[0 + j * 3 + 0]? = some (.int .i64 e.kind) := encEs_get spb he rfl
      have hfold := own_mk (T := 81) (b := bb) hlb hspb hcb
      refine go ?_
      refine WT_quiet (by kernel_rfl) ?_
      refine go ?_
      refine callQ (tabKind S.phase) ?_
      by_cases hk : e.kind = kindP S.phase
      · have ha : advP S.ents (kindP S.phase) S.next = j := by rw [← hpj.2]; exact adv_stop he hk
        have e2 : settle1 (decide (l = [])) (whiteP H col) S = ({ S with next := j }, true) := by rw [settle1, if_neg h3, ha, if_pos (.inl hlt)]
        have e3 : S' = { S with next := j } := by
          cases hS with
          | stop hs => rw [e2] at hs; cases hs; rfl
          | more hs _ => rw [e2] at hs; cases hs
        refine go ?_
        refine WT_quiet (by kernel_rfl) ?_
        refine go ?_
        refine st_fold (A := ownS 81 3 (.slice (some ⟨bb, 0, none⟩) ne ce) (encEs S.ents)) (As := [cel bb (encEs S.ents ++ spb) 81]) remsA hfold ?_
        refine st_toTab (t := t) (S := { S with next := j }) (ev := .slice (some ⟨bb, 0, none⟩) ne ce) (qv := .slice pq nq cq) (fv := fv) ?_
        refine WT_ret (rs := []) Try.func32 rfl rfl ⟨rfl, by rw [e3]⟩
      · refine go ?_
        refine WO_store rfl rfl rfl rfl rfl updA (.succ (.succ (.succ (.succ .zero)))) rfl rfl ?_
        refine go ?_
        refine WT_keep [4, 0, 1] rfl ?_
        refine st_fold (A := ownS 81 3 (.slice (some ⟨bb, 0, none⟩) ne ce) (encEs S.ents)) (As := [cel bb (encEs S.ents ++ spb) 81]) remsA hfold ?_
        exact pickN (ih2 hlt ⟨by omega, by rw [← adv_more he hk]; exact hpj.2⟩)
    · have hjn : j = S.ents.length := by omega
      subst hjn
      have ha : advP S.ents (kindP S.phase) S.next = S.ents.length := by rw [← hpj.2]; exact adv_end (Nat.le_refl _)
      refine go ?_
      refine WT_quiet (by kernel_rfl) ?_
      refine go ?_
      refine WT_quiet (by kernel_rfl) ?_
      by_cases h4 : S.phase = 4
      · have e2 : settle1 (decide (l = [])) (whiteP H col) S = ({ S with next := S.ents.length }, true) := by rw [settle1, if_neg h3, ha, if_pos (.inr h4)]
        have e3 : S' = { S with next := S.ents.length } := by
          cases hS with
          | stop hs => rw [e2] at hs; cases hs; rfl
          | more hs _ => rw [e2] at hs; cases hs
        refine go ?_
        refine st_toTab (t := t) (S := { S with next := S.ents.length }) (ev := .slice pe ne ce) (qv := .slice pq nq cq) (fv := fv) ?_
        refine WT_ret (rs := []) Try.func32 rfl rfl ⟨rfl, by rw [e3]⟩
      · have hph : S.phase = 1 ∨ S.phase = 2 := by omega
        refine go ?_
        refine WO_store rfl rfl rfl rfl rfl updA (.succ (.succ (.succ .zero))) rfl rfl ?_
        refine go ?_
        refine WO_store rfl rfl rfl rfl rfl updA (.succ (.succ (.succ (.succ .zero)))) rfl rfl ?_
        by_cases h1 : S.phase = 1
        · have e2 : settle1 (decide (l = [])) (whiteP H col) S = ({ S with phase := 2, next := 0, found := some (foundP S.ents (whiteP H col) S.ents.length) }, false) := by rw [settle1, if_neg h3, ha, if_neg (by omega), if_pos h1]
          have hok2 := (settle1_ok hok e2).1
          have hS2 : Settles (decide (l = [])) (whiteP H col) { S with phase := 2, next := 0, found := some (foundP S.ents (whiteP H col) S.ents.length) } S' := by
            cases hS with
            | stop hs => rw [e2] at hs; cases hs
            | more hs k => rw [e2] at hs; cases hs; exact k
          rw [show S.phase + 1 = 2 by omega]
          refine go ?_
          refine WO_makeMap rfl rfl rfl rfl fun mb => ?_
          refine st_fold (A := mapA mb (fun k => (foundP S.ents (whiteP H col) 0 k).map Value.bool)) (As := [blk mb (.map #[] 0)]) (.cons .here .nil) (fun k s => ⟨#[], 0, sep_get (List.mem_cons_self ..) s, ⟨by simp, by simp, by simp, by simp⟩, fun k => by
            have : ¬ (0 ≤ k ∧ k < ((0 : Nat) : Int)) := by omega
            simp only [foundP, if_neg this]; rfl⟩) ?_
          refine go ?_
          refine WO_store rfl rfl rfl rfl rfl updA (.succ (.succ (.succ (.succ (.succ .zero))))) rfl rfl ?_
          refine go ?_
          refine WT_keep [95, 94, 93, 4, 0, 1] rfl ?_
          refine pickN (As := [tabC t (.slice pe ne ce) (.slice pq nq cq) (.map (some mb)) 2 0, ownS 81 3 (.slice pe ne ce) (encEs S.ents), ownS 3 1 (.slice pq nq cq) (S.queue.map encI), mapA mb (fun k => (foundP S.ents (whiteP H col) 0 k).map Value.bool), markA m h col l, heapA h H]) ?_
          refine WT_loopN ne (fun _ => True) (fun j => [(95, .int .i64 (j : Int)), (94, .int .i64 (ne : Int)), (93, .slice pe ne ce), (4, .pointer (some ⟨t, 0 + 3, none⟩)), (0, .pointer (some ⟨t, 0, none⟩)), (1, .pointer (some ⟨m, 0, none⟩))])
            (fun j => [tabC t (.slice pe ne ce) (.slice pq nq cq) (.map (some mb)) 2 0, ownS 81 3 (.slice pe ne ce) (encEs S.ents), ownS 3 1 (.slice pq nq cq) (S.queue.map encI), mapA mb (fun k => (foundP S.ents (whiteP H col) j k).map Value.bool), markA m h col l, heapA h H]) ?_ 0 (Nat.zero_le _) trivial
          intro j hj _ ih3
          by_cases hlt : j < ne
          · obtain ⟨e, he⟩ : ∃ e, S.ents[j]? = some e := ⟨S.ents[j], by simp⟩
            have hnext := foundP_next (w := whiteP H col) he
            refine st_own (T := 81) (sz := 3) (l := encEs S.ents) (s := .slice pe ne ce) remA (fun hs h0 => ?_) (fun bb Nb cb spb hv hlb hspb hcb => ?_)
            · cases hs; omega
            cases hv
            have hat := encEs_at spb he
            rw [← Nat.zero_add (j * 3)] at hat
            have hfold := own_mk (T := 81) (b := bb) hlb hspb hcb
            refine go ?_
            refine WO_alloc (l := [.int .i64 0, .int .i64 0, .int .i64 0]) rfl rfl rfl rfl rfl fun c => ?_
            refine go ?_
            refine WO_storeAll (b := c) (l := [.int .i64 0, .int .i64 0, .int .i64 0]) (vs := encE e) rfl rfl rfl (by intro v hv; simp only [encE, List.mem_cons, List.not_mem_nil, or_false] at hv; rcases hv with rfl | rfl | rfl <;> rfl) rfl updA rfl rfl ?_
            refine go ?_
            refine WT_tail 14 (by kernel_rfl) (.succ (.succ (.succ (.succ (.succ (.succ (.succ (.succ (.succ (.succ (.succ (.succ (.succ (.succ (.zero))))))))))))))) ?_
            by_cases hk2 : e.kind = 2
            · have hv2 : (decide (e.kind = 2) && whiteP H col e.target) = whiteP H col e.target := by simp [hk2]
              rw [hv2] at hnext
              refine go ?_
              refine callQ (tabWhite (m := m) (h := h) (H := H) (col := col) (l := l) e.target) ?_
              refine go ?_
              refine WO_mapUpdate rfl rfl rfl rfl remA rfl rfl ?_
              rw [hnext]
              refine go ?_
              refine WT_keep [95, 94, 93, 4, 0, 1] rfl ?_
              refine st_fold (A := ownS 81 3 (.slice (some ⟨bb, 0, none⟩) ne ce) (encEs S.ents)) (As := [cel bb (encEs S.ents ++ spb) 81]) remsA hfold ?_
              exact pickN (ih3 hlt trivial)
            · have hv2 : (decide (e.kind = 2) && whiteP H col e.target) = false := by simp [hk2]
              rw [hv2] at hnext
              refine go ?_
              refine WO_mapUpdate rfl rfl rfl rfl remA rfl rfl ?_
              rw [hnext]
              refine go ?_
              refine WT_keep [95, 94, 93, 4, 0, 1] rfl ?_
              refine st_fold (A := ownS 81 3 (.slice (some ⟨bb, 0, none⟩) ne ce) (encEs S.ents)) (As := [cel bb (encEs S.ents ++ spb) 81]) remsA hfold ?_
              exact pickN (ih3 hlt trivial)
          · have hjn : j = ne := by omega
            subst hjn
            refine go ?_
            refine WT_keep [4, 0, 1] rfl ?_
            rw [← hne]
            refine st_fold (A := foundA (.map (some mb)) (some (foundP S.ents (whiteP H col) S.ents.length))) (As := [mapA mb (fun k => (foundP S.ents (whiteP H col) S.ents.length k).map Value.bool)]) remsA (fun k s => .inr ⟨mb, _, rfl, rfl, by
              obtain ⟨g1, g2, d, e, ⟨es, c, q1, q2⟩, y⟩ := s
              exact ⟨es, c, by rw [e]; simp [un, q1], q2⟩⟩) ?_
            refine st_toTab (t := t) (S := { S with phase := 2, next := 0, found := some (foundP S.ents (whiteP H col) S.ents.length) }) (ev := .slice pe S.ents.length ce) (qv := .slice pq nq cq) (fv := .map (some mb)) ?_
            refine pickN (As := [tabA t { S with phase := 2, next := 0, found := some (foundP S.ents (whiteP H col) S.ents.length) }, markA m h col l, heapA h H]) ?_
            exact ih _ (by show (5 - (2 : Int)).toNat < (5 - S.phase).toNat; rw [h1]; decide) ⟨hok2, hS2⟩
        · have e2 : settle1 (decide (l = [])) (whiteP H col) S = ({ S with phase := S.phase + 1, next := 0 }, false) := by rw [settle1, if_neg h3, ha, if_neg (by omega), if_neg h1]
          have hok2 := (settle1_ok hok e2).1
          have hS2 : Settles (decide (l = [])) (whiteP H col) { S with phase := S.phase + 1, next := 0 } S' := by
            cases hS with
            | stop hs => rw [e2] at hs; cases hs
            | more hs k => rw [e2] at hs; cases hs; exact k
          refine go ?_
          refine WT_keep [4, 0, 1] rfl ?_
          refine st_toTab (t := t) (S := { S with phase := S.phase + 1, next := 0 }) (ev := .slice pe ne ce) (qv := .slice pq nq cq) (fv := fv) ?_
          refine pickN (As := [tabA t { S with phase := S.phase + 1, next := 0 }, markA m h col l, heapA h H]) ?_
          exact ih _ (by show (5 - (S.phase + 1)).toNat < (5 - S.phase).toNat; omega) ⟨hok2, hS2⟩
end Go.Proofs.Ytkknhcdjdcpfcaa
