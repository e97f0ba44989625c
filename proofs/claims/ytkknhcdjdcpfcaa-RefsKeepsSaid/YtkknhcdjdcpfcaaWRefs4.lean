/- Walks of package refs: Begin, Step, Finish. -/
import Derived.Test.YtkknhcdjdcpfcaaInst
import Derived.Test.YtkknhcdjdcpfcaaWRefs3
import Derived.Test.YtkknhcdjdcpfcaaXSm
namespace Go.Proofs.Ytkknhcdjdcpfcaa
open Go.Sl Go.Iso
set_option linter.all false

section
variable {t m h : Nat} {H : HS}
theorem tabBegin {S S' : TS} {col : Col} (hph : S.phase = 0) (hrm : S.ents.length ≤ 100) (hS : Settles true (whiteP H col) { S with phase := 1, next := 0, found := none } S') :
    C Try.prog 9 [.pointer (some ⟨t, 0, none⟩), .pointer (some ⟨m, 0, none⟩)] [tabA t S, markA m h col [], heapA h H]
      (fun v L' => v = .int .i64 0 ∧ L' = [tabA t S', markA m h col [], heapA h H]) := by
  refine C_enter2 Try.func9 rfl rfl rfl fun β F => ?_
  refine st_tab .here fun pe ne ce pq nq cq fv hne hnq => ?_
  refine go ?_
  refine call (tabNone (t := t)) ?_
  rintro _ _ ⟨rfl, rfl⟩
  refine go ?_
  refine call (markHeap (m := m) (h := h) (col := col) (l := [])) ?_
  rintro _ _ ⟨rfl, rfl⟩
  refine go ?_
  refine call (markDone (m := m) (h := h) (col := col) (l := [])) ?_
  rintro _ _ ⟨rfl, rfl⟩
  refine go ?_
  refine WO_storeS (b := t) (off := 0 + 3) (l := [.bool true, .slice pe ne ce, .slice pq nq cq, .int .i64 S.phase, .int .i64 (S.next : Int), fv]) (vs := [.int .i64 1, .int .i64 0, .map none]) rfl rfl rfl rfl (by intro v hv; simp only [List.mem_cons, List.not_mem_nil, or_false] at hv; rcases hv with rfl | rfl | rfl <;> rfl) (by simp) rfl updA rfl rfl ?_
  refine go ?_
  refine st_fold (A := foundA (.map none) none) .nil (fun h _ => .inl ⟨rfl, rfl⟩) ?_
  refine st_toTab (t := t) (S := { S with phase := 1, next := 0, found := none }) (ev := .slice pe ne ce) (qv := .slice pq nq cq) (fv := .map none) ?_
  refine call (tabSettle (t := t) (m := m) (h := h) (H := H) (col := col) (l := []) (S := { S with phase := 1, next := 0, found := none }) ⟨⟨by show (1 : Int) ≤ 1; decide, by show (1 : Int) ≤ 4; decide⟩, Nat.zero_le _, hrm⟩ hS) ?_
  rintro _ _ ⟨rfl, rfl⟩
  refine go ?_
  refine pickN (As := [tabA t S', markA m h col [], heapA h H]) ?_
  refine WT_ret (rs := [.tmp 4]) Try.func9 rfl rfl ⟨rfl, rfl⟩

theorem encEs_set {v : Int} {e : Ent} : ∀ {l : List Ent} {i : Nat} (sp : List Value), l[i]? = some e → spl (encEs l ++ sp) (0 + i * 3 + 1) [.int .i64 v] = encEs (l.set i { e with target := v }) ++ sp
  | [], i, sp, h => by cases h
  | x :: l, 0, sp, h => by
    simp at h; subst h
    simp [encEs, encE, spl]
  | x :: l, i + 1, sp, h => by
    have := encEs_set (v := v) (l := l) (i := i) sp (by simpa using h)
    simp only [spl] at this ⊢
    have e1 : encEs (x :: l) = encE x ++ encEs l := rfl
    have e2 : encEs ((x :: l).set (i + 1) { e with target := v }) = encE x ++ encEs (l.set i { e with target := v }) := rfl
    rw [e1, e2, List.append_assoc, List.append_assoc, ← this, show 0 + (i + 1) * 3 + 1 = (encE x).length + (0 + i * 3 + 1) by simp [encE]; omega, List.set_append_right _ _ (by omega)]
    congr 2; omega
theorem found_mk {b : Nat} {g : Int → Option Bool} (k : Hp) (s : sep [mapA b (fun k => (g k).map Value.bool)] k) : foundA (.map (some b)) (some g) k :=
  .inr ⟨b, _, rfl, rfl, by
    obtain ⟨g1, g2, d, e, ⟨es, c, q1, q2⟩, y⟩ := s
    exact ⟨es, c, by rw [e]; simp [un, q1], q2⟩⟩
theorem st_found {β : Bs} {F : SP} {L M : List SP} {X : World → Prop} {fv : Value} {g : Int → Option Bool} (r : Rem (foundA fv (some g)) L M) (k : ∀ b, fv = .map (some b) → St β F (mapA b (fun k => (g k).map Value.bool) :: M) X) : St β F L X := by
  intro w hw
  have h3 : sep (foundA fv (some g) :: F :: M) (hp w) := star_left (hw.perm r.perm).heap
  obtain ⟨g1, g2, d, e, hh, y⟩ := h3
  rcases hh with ⟨_, hl⟩ | ⟨b, f, q1, q2, q3⟩
  · cases hl
  · cases q2
    exact k b q1 w ⟨hw.os, hw.tape, hw.output, hw.size, hw.free, star_left (B := F) (A := mapA b (fun k => (g k).map Value.bool)) ⟨g1, g2, d, e, q3, y⟩⟩
def foundB (S : TS) (i : Nat) : Bool := match S.found with | some g => (g (i : Int)).getD false | none => false
/-- What the step of an entry does. -/
def stepE (H : HS) (col : Col) (l : List Int) (S : TS) (e : Ent) : TS × Col × List Int :=
  if S.phase = 2 then if foundB S S.next = true then ({ S with ents := S.ents.set S.next { e with target := 0 }, queue := S.queue ++ [e.tag], next := S.next + 1 }, (shadeP H (col, l) e.target).1, (shadeP H (col, l) e.target).2) else ({ S with next := S.next + 1 }, col, l)
  else if whiteP H col e.target = true then ({ S with ents := S.ents.set S.next { e with target := 0 }, next := S.next + 1 }, col, l) else ({ S with next := S.next + 1 }, col, l)
/-- A step: what it answers, and what it leaves. -/
inductive StepR (H : HS) : TS → Col → List Int → Int × Int × Int → TS → Col → List Int → Prop
  | mark {S S1 S2 : TS} {col : Col} {x : Int} {r : List Int} {X : Th} : Settles false (whiteP H col) S S1 → S1.phase = 3 → lookT H.ths x = some X → ThOk H.ps X → (x :: r).length ≤ 10000 →
      Settles (decide ((stepP H col x r X).2 = [])) (whiteP H (stepP H col x r X).1) S1 S2 → StepR H S col (x :: r) (3, x, 0) S2 (stepP H col x r X).1 (stepP H col x r X).2
  | over {S S1 : TS} {col : Col} {l : List Int} : Settles (decide (l = [])) (whiteP H col) S S1 → S1.phase ≠ 3 → S1.ents.length ≤ S1.next → StepR H S col l (0, 0, 3) { S1 with phase := 0, next := 0, found := none } col l
  | entry {S S1 S2 : TS} {col : Col} {l : List Int} {e : Ent} : Settles (decide (l = [])) (whiteP H col) S S1 → S1.phase ≠ 3 → S1.ents[S1.next]? = some e → (S1.phase = 2 → S1.found ≠ none ∧ (e.target = 0 ∨ usedB H e.target = true)) → l.length ≤ 10000 → S1.queue.length ≤ 10000 →
      Settles (decide ((stepE H col l S1 e).2.2 = [])) (whiteP H (stepE H col l S1 e).2.1) (stepE H col l S1 e).1 S2 → StepR H S col l (S1.phase, (S1.next : Int), 0) S2 (stepE H col l S1 e).2.1 (stepE H col l S1 e).2.2
theorem settles_ok {dn : Bool} {w : Int → Bool} {S S' : TS} (hs : Settles dn w S S') : TsOk S → TsOk S' := by
  induction hs with
  | stop h => exact fun ok => (settle1_ok ok h).1
  | more h _ ih => exact fun ok => ih (settle1_ok ok h).1
theorem stepE_ok {S : TS} {H : HS} {col : Col} {l : List Int} {e : Ent} (h : TsOk S) (hlt : S.next < S.ents.length) : TsOk (stepE H col l S e).1 := by
  have hp := h.phase
  have hr := h.room
  unfold stepE
  split
  · split
    · exact ⟨hp, by show S.next + 1 ≤ (S.ents.set _ _).length; rw [List.length_set]; omega, by show (S.ents.set _ _).length ≤ 100; rw [List.length_set]; exact hr⟩
    · exact ⟨hp, hlt, hr⟩
  · split
    · exact ⟨hp, by show S.next + 1 ≤ (S.ents.set _ _).length; rw [List.length_set]; omega, by show (S.ents.set _ _).length ≤ 100; rw [List.length_set]; exact hr⟩
    · exact ⟨hp, hlt, hr⟩
set_option maxHeartbeats 4000000 in
theorem tabStep {S S' : TS} {col col' : Col} {l l' : List Int} {a : Int × Int × Int} (hok : TsOk S) (hR : StepR H S col l a S' col' l') :
    C Try.prog 33 [.pointer (some ⟨t, 0, none⟩), .pointer (some ⟨m, 0, none⟩)] [tabA t S, markA m h col l, heapA h H]
      (fun v L' => v = .tuple [.int .i64 a.1, .int .i64 a.2.1, .int .i64 a.2.2].toArray ∧ L' = [tabA t S', markA m h col' l', heapA h H]) := by
  have hp := hok.phase
  have h0 : ¬ S.phase = 0 := by omega
  refine C_enter2 Try.func33 rfl rfl rfl fun β F => ?_
  refine st_tab .here fun pe ne ce pq nq cq fv hne hnq => ?_
  refine go ?_
  refine call (tabNone (t := t)) ?_
  rintro _ _ ⟨rfl, rfl⟩
  refine go ?_
  refine call (markHeap (m := m) (h := h) (col := col) (l := l)) ?_
  rintro _ _ ⟨rfl, rfl⟩
  refine go ?_
  refine st_toTab (t := t) (S := S) (ev := .slice pe ne ce) (qv := .slice pq nq cq) (fv := fv) ?_
  cases hR with
  | mark hs h3 hX hth hle hs2 =>
    rename_i S1 x r X
    have ok1 := settles_ok hs hok
    refine call (tabSettle (t := t) (m := m) (h := h) (H := H) (col := col) (l := x :: r) hok (by simpa using hs)) ?_
    rintro _ _ ⟨rfl, rfl⟩
    refine st_tab .here fun pe ne ce pq nq cq fv hne hnq => ?_
    refine go ?_
    refine WT_quiet (by kernel_rfl) ?_
    refine go ?_
    refine call (markStep (m := m) (h := h) (H := H) (col := col) rfl hX hth hle) ?_
    rintro _ _ ⟨rfl, rfl⟩
    refine go ?_
    refine st_toTab (t := t) (S := S1) (ev := .slice pe ne ce) (qv := .slice pq nq cq) (fv := fv) ?_
    refine call (tabSettle (t := t) (m := m) (h := h) (H := H) ok1 hs2) ?_
    rintro _ _ ⟨rfl, rfl⟩
    refine go ?_
    refine pickN (As := [tabA t S', markA m h _ _, heapA h H]) ?_
    refine WT_ret (rs := [.tmp 4, .tmp 5, .tmp 6]) Try.func33 rfl rfl ⟨by rw [h3]; rfl, rfl⟩
  | over hs h3 hle =>
    rename_i S1
    have ok1 := settles_ok hs hok
    refine call (tabSettle (t := t) (m := m) (h := h) (H := H) (col := col) (l := l) hok hs) ?_
    rintro _ _ ⟨rfl, rfl⟩
    refine st_tab .here fun pe ne ce pq nq cq fv hne hnq => ?_
    refine go ?_
    refine WT_quiet (by kernel_rfl) ?_
    refine go ?_
    refine WO_storeS (b := t) (off := 0 + 3) (l := [.bool true, .slice pe ne ce, .slice pq nq cq, .int .i64 S1.phase, .int .i64 (S1.next : Int), fv]) (vs := [.int .i64 0, .int .i64 0, .map none]) rfl rfl rfl rfl (by intro v hv; simp only [List.mem_cons, List.not_mem_nil, or_false] at hv; rcases hv with rfl | rfl | rfl <;> rfl) (by simp) rfl updA rfl rfl ?_
    refine go ?_
    refine st_fold (A := foundA (.map none) none) .nil (fun h _ => .inl ⟨rfl, rfl⟩) ?_
    refine st_toTab (t := t) (S := { S1 with phase := 0, next := 0, found := none }) (ev := .slice pe ne ce) (qv := .slice pq nq cq) (fv := .map none) ?_
    refine pickN (As := [tabA t { S1 with phase := 0, next := 0, found := none }, markA m h col l, heapA h H]) ?_
    refine WT_ret (rs := [.tmp 4, .tmp 5, .tmp 6]) Try.func33 rfl rfl ⟨rfl, rfl⟩
  | entry hs h3 he hf hl hq hs2 =>
    rename_i S1 e
    have ok1 := settles_ok hs hok
    have hlt : S1.next < S1.ents.length := (List.getElem?_eq_some_iff.1 he).1
    have ok2 := stepE_ok (H := H) (col := col) (l := l) (e := e) ok1 hlt
    have hrm := ok1.room
    refine call (tabSettle (t := t) (m := m) (h := h) (H := H) (col := col) (l := l) hok hs) ?_
    rintro _ _ ⟨rfl, rfl⟩
    refine st_tab .here fun pe ne ce pq nq cq fv hne hnq => ?_
    refine st_own (T := 81) (sz := 3) (l := encEs S1.ents) (s := .slice pe ne ce) remA (fun hs h0 => ?_) (fun bb Nb cb spb hv hlb hspb hcb => ?_)
    · cases hs; omega
    cases hv
    have at1 : (encEs S1.ents ++ spb)[0 + S1.next * 3 + 1]? = some (.int .i64 e.target) := encEs_get spb he rfl
    have at2 : (encEs S1.ents ++ spb)[0 + S1.next * 3 + 2]? = some (.int .i64 e.tag) := encEs_get spb he rfl
    have hfold := own_mk (T := 81) (b := bb) hlb hspb hcb
    have hset := encEs_set (v := 0) spb he
    have hlb2 : (encEs (S1.ents.set S1.next { e with target := 0 })).length = ne * 3 := by rw [encEs_length, List.length_set, hne]
    have hfold2 := own_mk (T := 81) (b := bb) hlb2 hspb hcb
    have hlenc : 0 + S1.next * 3 + 1 + [(Value.int .i64 0)].length ≤ (encEs S1.ents ++ spb).length := by rw [List.length_append, hlb]; simp; omega
    by_cases h2 : S1.phase = 2
    · obtain ⟨hfn, hu⟩ := hf h2
      obtain ⟨g, hg⟩ := Option.ne_none_iff_exists'.1 hfn
      rw [hg]
      refine st_found remA fun b hb => ?_
      subst hb
      refine go ?_
      refine WT_quiet (by kernel_rfl) ?_
      refine go ?_
      refine WO_q (q_lookup rfl rfl rfl (.head _)) rfl rfl rfl ?_
      have hfb : foundB S1 S1.next = (g (S1.next : Int)).getD false := by simp only [foundB, hg]
      have hlk : (((g (S1.next : Int)).map Value.bool).getD (.bool false)) = .bool (foundB S1 S1.next) := by rw [hfb]; cases g (S1.next : Int) <;> rfl
      rw [hlk]
      cases hB : foundB S1 S1.next with
      | true =>
        have e2 : stepE H col l S1 e = ({ S1 with ents := S1.ents.set S1.next { e with target := 0 }, queue := S1.queue ++ [e.tag], next := S1.next + 1 }, (shadeP H (col, l) e.target).1, (shadeP H (col, l) e.target).2) := by rw [stepE, if_pos h2, if_pos hB]
        rw [e2] at hs2 ok2 ⊢
        refine go ?_
        refine WT_any ?_
        refine WA_pure 0 rfl (fun _ _ => qq) rfl (by kernel_rfl) rfl rfl rfl ?_
        refine WA_pure 1 rfl (fun _ _ => qq) rfl (by kernel_rfl) rfl rfl rfl ?_
        refine WA_pure 5 rfl (fun _ _ => qq) rfl (by kernel_rfl) rfl rfl rfl ?_
        refine WA_pure 2 rfl (fun _ _ => qq) rfl (by kernel_rfl) rfl rfl rfl ?_
        refine WA_pure 6 rfl (fun _ _ => qq) rfl (by kernel_rfl) rfl rfl rfl ?_
        refine WA_pure 3 rfl (fun _ _ => qq) rfl (by kernel_rfl) rfl rfl rfl ?_
        refine WA_pure 7 rfl (fun _ _ => qq) rfl (by kernel_rfl) rfl rfl rfl ?_
        refine WA_look 8 [83, 87] [4] rfl qq rfl rfl (by kernel_rfl) (.cons rfl (.of_WO rfl rfl (WO_q qq rfl rfl rfl (WO_nil fun w h => h))) .nil) rfl rfl rfl ?_
        refine WA_look 4 [83, 88] [9] rfl qq rfl rfl (by kernel_rfl) ?_ rfl rfl rfl ?_
        · refine .cons rfl ?_ .nil
          refine .of_WO ?_ ?_ ?_
          · rfl
          · rfl
          refine WO_build1 rfl rfl rfl rfl rfl rfl rfl fun b => ?_
          refine WO_nil ?_
          exact st_drop .here fun w h => h
        refine WA_seq 9 rfl rfl (by kernel_rfl) ?_
        refine WO_append1 (l := S1.queue.map encI) rfl rfl rfl rfl rfl rfl rfl rfl (fun _ => rfl) (by rw [List.length_map]; omega) (by decide) rfl (fun _ => rfl) rfl rfl fun v' b' => ?_
        refine st_ownV .here fun pv nv cv hv => ?_
        subst hv
        have eq1 : S1.queue.map encI ++ [.int .i64 e.tag] = (S1.queue ++ [e.tag]).map encI := by simp
        rw [eq1]
        refine go ?_
        refine WO_store rfl rfl rfl rfl rfl updA (.succ (.succ .zero)) rfl rfl ?_
        refine go ?_
        refine call (markShadeC (m := m) (h := h) (H := H) (col := col) (l := l) e.target (by omega) hu) ?_
        rintro _ _ ⟨rfl, rfl⟩
        refine go ?_
        refine WO_storeS (b := bb) (off := 0 + S1.next * 3 + 1) (l := encEs S1.ents ++ spb) (vs := [.int .i64 0]) rfl rfl rfl rfl (by simp [Value.oneCell']) hlenc hset updA rfl rfl ?_
        refine go ?_
        refine WO_store rfl rfl rfl rfl rfl updA (.succ (.succ (.succ (.succ .zero)))) rfl rfl ?_
        refine go ?_
        refine st_fold (A := ownS 81 3 (.slice (some ⟨bb, 0, none⟩) ne ce) (encEs (S1.ents.set S1.next { e with target := 0 }))) (As := [cel bb (encEs (S1.ents.set S1.next { e with target := 0 }) ++ spb) 81]) remsA hfold2 ?_
        refine st_fold (A := foundA (.map (some b)) (some g)) (As := [mapA b (fun k => (g k).map Value.bool)]) remsA (found_mk) ?_
        rw [← hg]
        refine st_toTab (t := t) (S := { S1 with ents := S1.ents.set S1.next { e with target := 0 }, queue := S1.queue ++ [e.tag], next := S1.next + 1 }) (ev := .slice (some ⟨bb, 0, none⟩) ne ce) (qv := .slice pv nv cv) (fv := .map (some b)) ?_
        refine call (tabSettle (t := t) (m := m) (h := h) (H := H) ok2 hs2) ?_
        rintro _ _ ⟨rfl, rfl⟩
        refine go ?_
        refine pickN (As := [tabA t S', markA m h _ _, heapA h H]) ?_
        refine WT_ret (rs := [.tmp 4, .tmp 5, .tmp 6]) Try.func33 rfl rfl ⟨rfl, rfl⟩
      | false =>
        have e2 : stepE H col l S1 e = ({ S1 with next := S1.next + 1 }, col, l) := by rw [stepE, if_pos h2, if_neg (by simp [hB])]
        rw [e2] at hs2 ok2 ⊢
        refine go ?_
        refine WO_store rfl rfl rfl rfl rfl updA (.succ (.succ (.succ (.succ .zero)))) rfl rfl ?_
        refine go ?_
        refine st_fold (A := ownS 81 3 (.slice (some ⟨bb, 0, none⟩) ne ce) (encEs S1.ents)) (As := [cel bb (encEs S1.ents ++ spb) 81]) remsA hfold ?_
        refine st_fold (A := foundA (.map (some b)) (some g)) (As := [mapA b (fun k => (g k).map Value.bool)]) remsA (found_mk) ?_
        rw [← hg]
        refine st_toTab (t := t) (S := { S1 with next := S1.next + 1 }) (ev := .slice (some ⟨bb, 0, none⟩) ne ce) (qv := .slice pq nq cq) (fv := .map (some b)) ?_
        refine call (tabSettle (t := t) (m := m) (h := h) (H := H) ok2 hs2) ?_
        rintro _ _ ⟨rfl, rfl⟩
        refine go ?_
        refine pickN (As := [tabA t S', markA m h _ _, heapA h H]) ?_
        refine WT_ret (rs := [.tmp 4, .tmp 5, .tmp 6]) Try.func33 rfl rfl ⟨rfl, rfl⟩
    · refine go ?_
      refine WT_quiet (by kernel_rfl) ?_
      refine go ?_
      refine call (tabWhite (m := m) (h := h) (H := H) (col := col) (l := l) e.target) ?_
      rintro _ _ ⟨rfl, rfl⟩
      cases hB : whiteP H col e.target with
      | true =>
        have e2 : stepE H col l S1 e = ({ S1 with ents := S1.ents.set S1.next { e with target := 0 }, next := S1.next + 1 }, col, l) := by rw [stepE, if_neg h2, if_pos hB]
        rw [e2] at hs2 ok2 ⊢
        refine go ?_
        refine WO_storeS (b := bb) (off := 0 + S1.next * 3 + 1) (l := encEs S1.ents ++ spb) (vs := [.int .i64 0]) rfl rfl rfl rfl (by simp [Value.oneCell']) hlenc hset updA rfl rfl ?_
        refine go ?_
        refine WO_store rfl rfl rfl rfl rfl updA (.succ (.succ (.succ (.succ .zero)))) rfl rfl ?_
        refine go ?_
        refine st_fold (A := ownS 81 3 (.slice (some ⟨bb, 0, none⟩) ne ce) (encEs (S1.ents.set S1.next { e with target := 0 }))) (As := [cel bb (encEs (S1.ents.set S1.next { e with target := 0 }) ++ spb) 81]) remsA hfold2 ?_
        refine st_toTab (t := t) (S := { S1 with ents := S1.ents.set S1.next { e with target := 0 }, next := S1.next + 1 }) (ev := .slice (some ⟨bb, 0, none⟩) ne ce) (qv := .slice pq nq cq) (fv := fv) ?_
        refine call (tabSettle (t := t) (m := m) (h := h) (H := H) ok2 hs2) ?_
        rintro _ _ ⟨rfl, rfl⟩
        refine go ?_
        refine pickN (As := [tabA t S', markA m h _ _, heapA h H]) ?_
        refine WT_ret (rs := [.tmp 4, .tmp 5, .tmp 6]) Try.func33 rfl rfl ⟨rfl, rfl⟩
      | false =>
        have e2 : stepE H col l S1 e = ({ S1 with next := S1.next + 1 }, col, l) := by rw [stepE, if_neg h2, if_neg (by simp [hB])]
        rw [e2] at hs2 ok2 ⊢
        refine go ?_
        refine WO_store rfl rfl rfl rfl rfl updA (.succ (.succ (.succ (.succ .zero)))) rfl rfl ?_
        refine go ?_
        refine st_fold (A := ownS 81 3 (.slice (some ⟨bb, 0, none⟩) ne ce) (encEs S1.ents)) (As := [cel bb (encEs S1.ents ++ spb) 81]) remsA hfold ?_
        refine st_toTab (t := t) (S := { S1 with next := S1.next + 1 }) (ev := .slice (some ⟨bb, 0, none⟩) ne ce) (qv := .slice pq nq cq) (fv := fv) ?_
        refine call (tabSettle (t := t) (m := m) (h := h) (H := H) ok2 hs2) ?_
        rintro _ _ ⟨rfl, rfl⟩
        refine go ?_
        refine pickN (As := [tabA t S', markA m h _ _, heapA h H]) ?_
        refine WT_ret (rs := [.tmp 4, .tmp 5, .tmp 6]) Try.func33 rfl rfl ⟨rfl, rfl⟩
end
end Go.Proofs.Ytkknhcdjdcpfcaa
