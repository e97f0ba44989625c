/- Walks of package refs. -/
import Derived.Test.YtkknhcdjdcpfcaaInst
import Derived.Test.YtkknhcdjdcpfcaaXMk
import Derived.Test.YtkknhcdjdcpfcaaXSm
namespace Go.Proofs.Ytkknhcdjdcpfcaa
open Go.Sl Go.Iso
set_option linter.all false

structure Ent where
  kind : Int
  target : Int
  tag : Int
  deriving Inhabited
structure TS where
  ents : List Ent
  queue : List Int
  phase : Int
  next : Nat
  found : Option (Int → Option Bool)
def encE (e : Ent) : List Value := [.int .i64 e.kind, .int .i64 e.target, .int .i64 e.tag]
def encEs (l : List Ent) : List Value := l.flatMap encE
theorem encEs_length : ∀ l : List Ent, (encEs l).length = l.length * 3
  | [] => rfl
  | e :: l => by
    have := encEs_length l
    simp only [encEs, List.flatMap_cons, List.length_append, List.length_cons] at this ⊢
    rw [this]; simp [encE]; omega
theorem encEs_one {l : List Ent} : ∀ v ∈ encEs l, v.oneCell' = true := by
  intro v hv
  simp only [encEs, List.mem_flatMap, encE] at hv
  obtain ⟨e, _, hv⟩ := hv
  simp at hv
  rcases hv with rfl | rfl | rfl <;> rfl
theorem encEs_at : ∀ {l : List Ent} {i : Nat} {e : Ent} (sp : List Value), l[i]? = some e → ((encEs l ++ sp).drop (i * 3)).take 3 = encE e
  | [], i, e, sp, h => by cases h
  | x :: l, 0, e, sp, h => by
    simp at h; subst h
    simp [encEs, encE]
  | x :: l, i + 1, e, sp, h => by
    have := encEs_at (l := l) (i := i) sp (by simpa using h)
    have e1 : encEs (x :: l) = encE x ++ encEs l := rfl
    rw [e1, List.append_assoc, show (i + 1) * 3 = 3 + i * 3 by omega, ← List.drop_drop]
    have e2 : (encE x ++ (encEs l ++ sp)).drop 3 = encEs l ++ sp := by simp [encE]
    rw [e2]; exact this
theorem encEs_get {l : List Ent} {i j : Nat} {e : Ent} {v : Value} (sp : List Value) (h : l[i]? = some e) (hv : (encE e)[j]? = some v) : (encEs l ++ sp)[0 + i * 3 + j]? = some v := by
  have h1 := encEs_at sp h
  have hj : j < 3 := by
    have := (List.getElem?_eq_some_iff.1 hv).1
    simpa [encE] using this
  rw [Nat.zero_add, getElem?_of_take h1 (by simpa [encE] using hj)]
  exact hv
def foundA (fv : Value) (g : Option (Int → Option Bool)) : SP := fun h => (fv = .map none ∧ g = none) ∨ ∃ b f, fv = .map (some b) ∧ g = some f ∧ mapA b (fun k => (f k).map Value.bool) h
abbrev tabC (t : Nat) (ev qv fv : Value) (ph : Int) (nx : Nat) : SP := cel t [.bool true, ev, qv, .int .i64 ph, .int .i64 (nx : Int), fv] 79
abbrev tab4 (t : Nat) (ev qv fv : Value) (S : TS) : List SP := [tabC t ev qv fv S.phase S.next, ownS 81 3 ev (encEs S.ents), ownS 3 1 qv (S.queue.map encI), foundA fv S.found]
def tabA (t : Nat) (S : TS) : SP := fun k => ∃ x : Value × Value × Value, sep (tab4 t x.1 x.2.1 x.2.2 S) k
theorem st_tab {β : Bs} {F : SP} {L M : List SP} {X : World → Prop} {t : Nat} {S : TS} (r : Rem (tabA t S) L M)
    (k : ∀ pe ne ce pq nq cq fv, S.ents.length = ne → S.queue.length = nq → St β F (tab4 t (.slice pe ne ce) (.slice pq nq cq) fv S ++ M) X) : St β F L X :=
  st_ex (p := fun _ => True) r (fun h ⟨x, s⟩ => ⟨x, trivial, s⟩) fun x _ => by
    refine st_ownL (T := 81) (sz := 3) (s := x.1) (l := encEs S.ents) (.there .here) fun pe ne ce hx hn => ?_
    refine st_ownL (T := 3) (sz := 1) (s := x.2.1) (l := S.queue.map encI) (.there (.there .here)) fun pq nq cq hx' hn' => ?_
    rw [hx, hx']
    refine k pe ne ce pq nq cq x.2.2 ?_ (by simpa using hn')
    rw [encEs_length] at hn
    exact Nat.eq_of_mul_eq_mul_right (by decide) hn
theorem st_toTab {β : Bs} {F : SP} {L M : List SP} {X : World → Prop} {t : Nat} {ev qv fv : Value} {S : TS} (k : St β F (tabA t S :: M) X)
    (r : autoParam (Rems (tab4 t ev qv fv S) L M) pick._auto_1) : St β F L X := st_fold r (fun k s => ⟨(ev, qv, fv), s⟩) k

theorem tabNew : C Try.prog 16 [] [] (fun v L' => ∃ t, v = .pointer (some ⟨t, 0, none⟩) ∧ L' = [tabA t { ents := [], queue := [], phase := 0, next := 0, found := none }]) := by
  refine C_enter0 Try.func16 rfl rfl rfl fun β F => ?_
  refine go ?_
  refine WO_box rfl rfl rfl rfl rfl rfl fun t => ?_
  refine go ?_
  refine st_fold (A := ownS 81 3 (.slice none 0 0) []) .nil (fun h _ => own_nil h) ?_
  refine st_fold (A := ownS 3 1 (.slice none 0 0) []) .nil (fun h _ => own_nil h) ?_
  refine st_fold (A := foundA (.map none) none) .nil (fun h _ => .inl ⟨rfl, rfl⟩) ?_
  refine st_toTab (t := t) (S := { ents := [], queue := [], phase := 0, next := 0, found := none }) (ev := .slice none 0 0) (qv := .slice none 0 0) (fv := .map none) ?_
  refine WT_ret (rs := [.tmp 0]) Try.func16 rfl rfl ⟨t, rfl, rfl⟩
theorem tabNone {t : Nat} {ev qv fv : Value} {ph : Int} {nx : Nat} : C Try.prog 29 [.pointer (some ⟨t, 0, none⟩)] [tabC t ev qv fv ph nx] (fun v L' => v = .bool false ∧ L' = [tabC t ev qv fv ph nx]) := by
  refine C_enter1 Try.func29 rfl rfl rfl fun β F => ?_
  refine go ?_
  refine WT_ret (rs := [.tmp 2]) Try.func29 rfl rfl ⟨rfl, rfl⟩
/-- The kind of entry that a phase looks at. -/
def kindP (ph : Int) : Int := if ph = 4 then 3 else ph
theorem tabKind (ph : Int) : C Try.prog 57 [.int .i64 ph] [] (fun v L' => v = .int .i64 (kindP ph) ∧ L' = []) := by
  refine C_enter1 Try.func57 rfl rfl rfl fun β F => ?_
  by_cases h : ph = 4
  · refine go ?_
    refine WT_ret (rs := [.tmp 2]) Try.func57 rfl rfl ⟨by rw [kindP, if_pos h]; rfl, rfl⟩
  · refine go ?_
    refine WT_ret (rs := [.tmp 2]) Try.func57 rfl rfl ⟨by rw [kindP, if_neg h]; rfl, rfl⟩
def whiteP (H : HS) (col : Col) (k : Int) : Bool := decide (k ≠ 0) && usedB H k && decide ((col k).getD 0 = 0)
theorem tabWhite {m h : Nat} {H : HS} {col : Col} {l : List Int} (k : Int) : C Try.prog 58 [.pointer (some ⟨m, 0, none⟩), .int .i64 k] [markA m h col l, heapA h H] (fun v L' => v = .bool (whiteP H col k) ∧ L' = [markA m h col l, heapA h H]) := by
  refine C_enter2 Try.func58 rfl rfl rfl fun β F => ?_
  refine go ?_
  refine call (markColor (m := m) (h := h) (H := H) (col := col) (l := l) k) ?_
  rintro _ _ ⟨rfl, rfl⟩
  cases hu : usedB H k with
  | false =>
    have e : colorV H col k = .tuple [.int .i64 0, .int .i64 3].toArray := by simp [colorV, hu]
    have e2 : whiteP H col k = false := by simp [whiteP, hu]
    rw [e, e2]
    by_cases h0 : k = 0
    · refine go ?_
      refine WT_ret (rs := [.tmp 4]) Try.func58 rfl rfl ⟨rfl, rfl⟩
    · refine go ?_
      refine WT_ret (rs := [.tmp 4]) Try.func58 rfl rfl ⟨rfl, rfl⟩
  | true =>
    have e : colorV H col k = .tuple [.int .i64 ((col k).getD 0), .int .i64 0].toArray := by simp [colorV, hu]
    rw [e]
    by_cases h0 : k = 0
    · have e2 : whiteP H col k = false := by simp [whiteP, h0]
      rw [e2]
      refine go ?_
      refine WT_ret (rs := [.tmp 4]) Try.func58 rfl rfl ⟨rfl, rfl⟩
    · have e2 : whiteP H col k = decide ((col k).getD 0 = 0) := by simp [whiteP, h0, hu]
      rw [e2]
      refine go ?_
      refine WT_ret (rs := [.tmp 4]) Try.func58 rfl rfl ⟨rfl, rfl⟩
/-- An entry. -/
theorem tabAt {t : Nat} {S : TS} {i : Nat} {e : Ent} (he : S.ents[i]? = some e) (hlen : S.ents.length ≤ 100) : C Try.prog 34 [.pointer (some ⟨t, 0, none⟩), .int .i64 (i : Int)] [tabA t S]
    (fun v L' => v = .tuple [.agg (encE e).toArray, .int .i64 0].toArray ∧ L' = [tabA t S]) := by
  have hlt : i < S.ents.length := (List.getElem?_eq_some_iff.1 he).1
  refine C_enter2 Try.func34 rfl rfl rfl fun β F => ?_
  refine go ?_
  refine WO_alloc (l := [.int .i64 0, .int .i64 0, .int .i64 0]) rfl rfl rfl rfl rfl fun c => ?_
  refine st_tab (.there .here) fun pe ne ce pq nq cq fv hne hnq => ?_
  refine go ?_
  refine call (tabNone (t := t)) ?_
  rintro _ _ ⟨rfl, rfl⟩
  refine st_own (T := 81) (sz := 3) (l := encEs S.ents) (s := .slice pe ne ce) remA (fun hs _ => ?_) (fun bb Nb cb spb hv hlb hspb hcb => ?_)
  · cases hs; omega
  cases hv
  have hat := encEs_at spb he
  rw [← Nat.zero_add (i * 3)] at hat
  refine go ?_
  refine WO_storeAll (b := c) (l := [.int .i64 0, .int .i64 0, .int .i64 0]) (vs := encE e) rfl rfl rfl (by intro v hv; simp only [encE, List.mem_cons, List.not_mem_nil, or_false] at hv; rcases hv with rfl | rfl | rfl <;> rfl) rfl updA rfl rfl ?_
  refine go ?_
  refine st_fold (A := ownS 81 3 (.slice (some ⟨bb, 0, none⟩) ne ce) (encEs S.ents)) (.cons .here .nil) (own_mk hlb hspb hcb) ?_
  refine st_toTab (t := t) (S := S) (ev := .slice (some ⟨bb, 0, none⟩) ne ce) (qv := .slice pq nq cq) (fv := fv) ?_
  refine WT_retC (b := c) (vs := encE e) (v := .int .i64 0) Try.func34 rfl rfl rfl (by repeat (first | exact .head _ | refine .tail _ ?_)) (L0 := [tabA t S]) ⟨rfl, rfl⟩ remsA

theorem tabTarget {t : Nat} {S : TS} {i : Nat} {e : Ent} (he : S.ents[i]? = some e) (hlen : S.ents.length ≤ 100) : C Try.prog 11 [.pointer (some ⟨t, 0, none⟩), .int .i64 (i : Int)] [tabA t S]
    (fun v L' => v = .tuple [.int .i64 e.target, .int .i64 0].toArray ∧ L' = [tabA t S]) := by
  refine C_enter2 Try.func11 rfl rfl rfl fun β F => ?_
  refine go ?_
  refine call (tabAt (t := t) he hlen) ?_
  rintro _ _ ⟨rfl, rfl⟩
  refine go ?_
  refine WO_alloc (l := [.int .i64 0, .int .i64 0, .int .i64 0]) rfl rfl rfl rfl rfl fun c => ?_
  refine go ?_
  refine WO_storeAll (b := c) (l := [.int .i64 0, .int .i64 0, .int .i64 0]) (vs := encE e) rfl rfl rfl (by intro v hv; simp only [encE, List.mem_cons, List.not_mem_nil, or_false] at hv; rcases hv with rfl | rfl | rfl <;> rfl) rfl updA rfl rfl ?_
  refine go ?_
  refine pick (As := [tabA t S]) ?_
  refine WT_ret (rs := [.tmp 4, .tmp 5]) Try.func11 rfl rfl ⟨rfl, rfl⟩
theorem tabQueue {t : Nat} {S : TS} (hq : S.queue.length ≤ 1000) : C Try.prog 14 [.pointer (some ⟨t, 0, none⟩)] [tabA t S]
    (fun v L' => L' = [ownS 3 1 v (S.queue.map encI), tabA t S]) := by
  refine C_enter1 Try.func14 rfl rfl rfl fun β F => ?_
  refine st_tab .here fun pe ne ce pq nq cq fv hne hnq => ?_
  refine go ?_
  refine call (tabNone (t := t)) ?_
  rintro _ _ ⟨rfl, rfl⟩
  refine st_own (T := 3) (sz := 1) (l := S.queue.map encI) (s := .slice pq nq cq) remA (fun hs h0 => ?_) (fun bb Nb cb spb hv hlb hspb hcb => ?_)
  · cases hs
    have hq0 : S.queue = [] := by simpa using h0
    refine go ?_
    refine call cloneIntsNil ?_
    rintro _ _ ⟨rfl, rfl⟩
    refine go ?_
    refine st_fold (A := ownS 3 1 (.slice none 0 0) (S.queue.map encI)) .nil (fun h _ => by rw [hq0]; exact own_nil h) ?_
    refine st_fold (A := ownS 3 1 (.slice none 0 0) (S.queue.map encI)) .nil (fun h _ => by rw [hq0]; exact own_nil h) ?_
    refine st_toTab (t := t) (S := S) (ev := .slice pe ne ce) (qv := .slice none 0 0) (fv := fv) ?_
    refine pick (As := [ownS 3 1 (.slice none 0 0) (S.queue.map encI), tabA t S]) ?_
    refine WT_ret (rs := [.tmp 2]) Try.func14 rfl rfl rfl
  · cases hv
    refine go ?_
    refine call (cloneInts (b := bb) (off := 0) (m := nq) (c := cq) (T := 3) (fr := (0, 0)) (l := S.queue.map encI ++ spb) (news := S.queue.map encI) (by rw [List.drop_zero, List.take_left']; rfl) hlb (fun v hv => by obtain ⟨y, _, rfl⟩ := List.mem_map.1 hv; rfl) (by omega)) ?_
    rintro v _ rfl
    refine go ?_
    refine st_fold (A := ownS 3 1 (.slice (some ⟨bb, 0, none⟩) nq cq) (S.queue.map encI)) (.cons (.there .here) .nil) (own_mk hlb hspb hcb) ?_
    refine st_toTab (t := t) (S := S) (ev := .slice pe ne ce) (qv := .slice (some ⟨bb, 0, none⟩) nq cq) (fv := fv) ?_
    refine pick (As := [ownS 3 1 v (S.queue.map encI), tabA t S]) ?_
    refine WT_ret (rs := [.tmp 2]) Try.func14 rfl rfl rfl
end Go.Proofs.Ytkknhcdjdcpfcaa
namespace Go.Proofs.Ytkknhcdjdcpfcaa
open Go.Sl Go.Iso
set_option linter.all false

/-- What Add answers, and what it leaves. -/
def addT (S : TS) (H : HS) (kind target tag : Int) : Int × Int × TS :=
  if kind < 1 ∨ 3 < kind then (0, 1, S) else if 0 < S.phase then (0, 13, S) else if usedB H target = false then (0, 3, S) else if 20 ≤ S.ents.length then (0, 2, S)
  else ((S.ents.length : Int), 0, { S with ents := S.ents ++ [⟨kind, target, tag⟩] })
set_option maxHeartbeats 1000000 in
theorem tabAdd {t m h : Nat} {S : TS} {H : HS} {col : Col} {l : List Int} {kind target tag : Int} (hlen : S.ents.length ≤ 100) :
    C Try.prog 8 [.pointer (some ⟨t, 0, none⟩), .pointer (some ⟨m, 0, none⟩), .int .i64 kind, .int .i64 target, .int .i64 tag] [tabA t S, markA m h col l, heapA h H]
      (fun v L' => v = .tuple [.int .i64 (addT S H kind target tag).1, .int .i64 (addT S H kind target tag).2.1].toArray ∧ L' = [tabA t (addT S H kind target tag).2.2, markA m h col l, heapA h H]) := by
  refine C_enter5 Try.func8 rfl rfl rfl fun β F => ?_
  refine st_tab .here fun pe ne ce pq nq cq fv hne hnq => ?_
  refine go ?_
  refine call (tabNone (t := t)) ?_
  rintro _ _ ⟨rfl, rfl⟩
  by_cases hk1 : kind < 1
  · have e : addT S H kind target tag = (0, 1, S) := by rw [addT, if_pos (.inl hk1)]
    rw [e]
    refine go ?_
    refine st_toTab (t := t) (S := S) (ev := .slice pe ne ce) (qv := .slice pq nq cq) (fv := fv) ?_
    refine WT_ret (rs := [.tmp 10, .tmp 11]) Try.func8 rfl rfl ⟨rfl, rfl⟩
  by_cases hk2 : 3 < kind
  · have e : addT S H kind target tag = (0, 1, S) := by rw [addT, if_pos (.inr hk2)]
    rw [e]
    refine go ?_
    refine st_toTab (t := t) (S := S) (ev := .slice pe ne ce) (qv := .slice pq nq cq) (fv := fv) ?_
    refine WT_ret (rs := [.tmp 10, .tmp 11]) Try.func8 rfl rfl ⟨rfl, rfl⟩
  have hk : ¬ (kind < 1 ∨ 3 < kind) := by omega
  refine go ?_
  refine call (markColor (m := m) (h := h) (H := H) (col := col) (l := l) target) ?_
  rintro _ _ ⟨rfl, rfl⟩
  have hcol : ∃ x y, colorV H col target = .tuple [.int .i64 x, .int .i64 y].toArray ∧ y ≠ 1 ∧ (usedB H target = false → y = 3) ∧ (usedB H target = true → y = 0) := by
    unfold colorV
    split
    · rename_i hu; exact ⟨_, 0, rfl, by decide, by simp [hu], by simp⟩
    · rename_i hu; exact ⟨_, 3, rfl, by decide, by simp, fun h => absurd h hu⟩
  obtain ⟨x, y, hcv, hy1, hy3, hy0⟩ := hcol
  rw [hcv]
  by_cases hp : 0 < S.phase
  · have e : addT S H kind target tag = (0, 13, S) := by rw [addT, if_neg hk, if_pos hp]
    rw [e]
    refine go ?_
    refine st_toTab (t := t) (S := S) (ev := .slice pe ne ce) (qv := .slice pq nq cq) (fv := fv) ?_
    refine pick (As := [tabA t S, markA m h col l, heapA h H]) ?_
    refine WT_ret (rs := [.tmp 10, .tmp 11]) Try.func8 rfl rfl ⟨rfl, rfl⟩
  cases hu : usedB H target with
  | false =>
    have hy := hy3 hu
    subst hy
    have e : addT S H kind target tag = (0, 3, S) := by rw [addT, if_neg hk, if_neg hp, if_pos hu]
    rw [e]
    refine go ?_
    refine st_toTab (t := t) (S := S) (ev := .slice pe ne ce) (qv := .slice pq nq cq) (fv := fv) ?_
    refine pick (As := [tabA t S, markA m h col l, heapA h H]) ?_
    refine WT_ret (rs := [.tmp 10, .tmp 11]) Try.func8 rfl rfl ⟨rfl, rfl⟩
  | true =>
    have hy := hy0 hu
    subst hy
    by_cases h20 : 20 ≤ S.ents.length
    · have e : addT S H kind target tag = (0, 2, S) := by rw [addT, if_neg hk, if_neg hp, if_neg (by simp [hu]), if_pos h20]
      rw [e]
      refine go ?_
      refine st_toTab (t := t) (S := S) (ev := .slice pe ne ce) (qv := .slice pq nq cq) (fv := fv) ?_
      refine pick (As := [tabA t S, markA m h col l, heapA h H]) ?_
      refine WT_ret (rs := [.tmp 10, .tmp 11]) Try.func8 rfl rfl ⟨rfl, rfl⟩
    · have e : addT S H kind target tag = ((S.ents.length : Int), 0, { S with ents := S.ents ++ [⟨kind, target, tag⟩] }) := by rw [addT, if_neg hk, if_neg hp, if_neg (by simp [hu]), if_neg h20]
      rw [e]
      have hel := encEs_length S.ents
      refine go ?_
      refine WO_append3 (l := encEs S.ents) (a1 := .int .i64 kind) (a2 := .int .i64 target) (a3 := .int .i64 tag) (z1 := .int .i64 0) (z2 := .int .i64 0) (z3 := .int .i64 0) rfl rfl rfl rfl rfl rfl rfl rfl rfl (fun _ => rfl) (by omega) (by decide) (fun _ => rfl) rfl rfl fun v' b => ?_
      have ee : encEs S.ents ++ [.int .i64 kind, .int .i64 target, .int .i64 tag] = encEs (S.ents ++ [⟨kind, target, tag⟩]) := by simp [encEs, encE]
      rw [ee]
      refine st_ownL .here fun pv nv cv hv hnv => ?_
      subst hv
      have hnv' : nv = S.ents.length + 1 := by
        rw [encEs_length] at hnv
        have := Nat.eq_of_mul_eq_mul_right (by decide) hnv
        simpa using this.symm
      subst hnv'
      refine go ?_
      refine WO_store rfl rfl rfl rfl rfl updA (.succ .zero) rfl rfl ?_
      refine go ?_
      refine st_toTab (t := t) (S := { S with ents := S.ents ++ [⟨kind, target, tag⟩] }) (ev := .slice pv (S.ents.length + 1) cv) (qv := .slice pq nq cq) (fv := fv) ?_
      refine pick (As := [tabA t { S with ents := S.ents ++ [⟨kind, target, tag⟩] }, markA m h col l, heapA h H]) ?_
      refine WT_ret (rs := [.tmp 10, .tmp 11]) Try.func8 rfl rfl ⟨?_, rfl⟩
      simp [resV]
end Go.Proofs.Ytkknhcdjdcpfcaa
