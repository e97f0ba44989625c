/- Walks of package mark. -/
import Derived.Test.YtkknhcdjdcpfcaaInst
import Derived.Test.YtkknhcdjdcpfcaaWNewObj
namespace Go.Proofs.Ytkknhcdjdcpfcaa
open Go.Sl Go.Iso
set_option linter.all false

abbrev Col := Int → Option Int
def colV (c : Col) : Int → Option Value := fun k => (c k).map encI
def cset (c : Col) (k x : Int) : Col := fun j => if j = k then some x else c j
theorem colV_set (c : Col) (k x : Int) : mset (colV c) k (encI x) = colV (cset c k x) := by
  funext j; simp only [mset, colV, cset]; split <;> rfl
abbrev mark3 (m h c : Nat) (lv : Value) (col : Col) (l : List Int) : List SP := [cel m [.pointer (some ⟨h, 0, none⟩), .map (some c), lv] 117, mapA c (colV col), ownS 3 1 lv (l.map encI)]
def markA (m h : Nat) (col : Col) (l : List Int) : SP := fun k => ∃ x : Nat × Value, sep (mark3 m h x.1 x.2 col l) k
theorem st_ownL {β : Bs} {F : SP} {L M : List SP} {X : World → Prop} {T sz : Nat} {s : Value} {l : List Value} (r : Rem (ownS T sz s l) L M) (k : ∀ p n c, s = .slice p n c → l.length = n * sz → St β F L X) : St β F L X := by
  intro w h
  have h3 : sep (ownS T sz s l :: F :: M) (hp w) := star_left (h.perm r.perm).heap
  obtain ⟨g1, g2, d, e, hh, y⟩ := h3
  rcases hh with ⟨hh, hl⟩ | ⟨b, k', c, sp, q1, q2, q3, q4, q5⟩
  · exact k _ _ _ hh (by simp [hl]) w h
  · exact k _ _ _ q1 q2 w h
theorem st_mark {β : Bs} {F : SP} {L M : List SP} {X : World → Prop} {m h : Nat} {col : Col} {l : List Int} (r : Rem (markA m h col l) L M)
    (k : ∀ c p n cp, l.length = n → St β F (mark3 m h c (.slice p n cp) col l ++ M) X) : St β F L X :=
  st_ex (p := fun _ => True) r (fun h ⟨x, s⟩ => ⟨x, trivial, s⟩) fun x _ => by
    refine st_ownL (T := 3) (sz := 1) (s := x.2) (l := l.map encI) (.there (.there .here)) fun p n cp hx hn => ?_
    rw [hx]
    exact k x.1 p n cp (by simpa using hn)
theorem st_toMark {β : Bs} {F : SP} {L M : List SP} {X : World → Prop} {m h c : Nat} {lv : Value} {col : Col} {l : List Int} (k : St β F (markA m h col l :: M) X)
    (r : autoParam (Rems (mark3 m h c lv col l) L M) pick._auto_1) : St β F L X := st_fold r (fun k s => ⟨(c, lv), s⟩) k

theorem markNone {m h c : Nat} {lv : Value} {col : Col} {l : List Int} : C Try.prog 51 [.pointer (some ⟨m, 0, none⟩)] (mark3 m h c lv col l) (fun v L' => v = .bool false ∧ L' = mark3 m h c lv col l) := by
  refine C_enter1 Try.func51 rfl rfl rfl fun β F => ?_
  refine go ?_
  refine WT_ret (rs := [.tmp 2]) Try.func51 rfl rfl ⟨rfl, rfl⟩
/-- Is a handle in use? -/
def usedB (H : HS) (k : Int) : Bool := (lookT H.ths k).isSome
theorem markUsed {h : Nat} {H : HS} (k : Int) : C Try.prog 56 [.pointer (some ⟨h, 0, none⟩), .int .i64 k] [heapA h H] (fun v L' => v = .bool (usedB H k) ∧ L' = [heapA h H]) := by
  refine C_enter2 Try.func56 rfl rfl rfl fun β F => ?_
  refine go ?_
  refine call (heapType (H := H) k) ?_
  rintro _ _ ⟨rfl, rfl⟩
  cases hl : lookT H.ths k with
  | none =>
    have e : typeV H.ths k = .tuple [.int .i64 0, .int .i64 0, .int .i64 0, .int .i64 3].toArray := by simp [typeV, hl]
    have e2 : usedB H k = false := by simp [usedB, hl]
    rw [e, e2]
    refine go ?_
    refine WT_ret (rs := [.tmp 4]) Try.func56 rfl rfl ⟨rfl, rfl⟩
  | some X =>
    have e : typeV H.ths k = .tuple [.int .i64 X.kind, .int .i64 X.cls, .int .i64 (X.len : Int), .int .i64 0].toArray := by simp [typeV, hl]
    have e2 : usedB H k = true := by simp [usedB, hl]
    rw [e, e2]
    refine go ?_
    refine WT_ret (rs := [.tmp 4]) Try.func56 rfl rfl ⟨rfl, rfl⟩
/-- A white handle in use becomes gray. -/
def shadeP (H : HS) (s : Col × List Int) (k : Int) : Col × List Int := if k ≠ 0 ∧ usedB H k = true ∧ (s.1 k).getD 0 = 0 then (cset s.1 k 1, s.2 ++ [k]) else s
theorem shadeP_le (H : HS) (s : Col × List Int) (k : Int) : (shadeP H s k).2.length ≤ s.2.length + 1 := by
  unfold shadeP; split <;> simp
theorem lkCol (col : Col) (k : Int) : ((colV col k).getD (.int .i64 0)) = .int .i64 ((col k).getD 0) := by
  simp only [colV]; cases col k <;> rfl
theorem markShade {m h : Nat} {H : HS} {col : Col} {l : List Int} (k : Int) (hl : l.length ≤ 1000000) : C Try.prog 55 [.pointer (some ⟨m, 0, none⟩), .int .i64 k] [markA m h col l, heapA h H]
    (fun v L' => v = .tuple #[] ∧ L' = [markA m h (shadeP H (col, l) k).1 (shadeP H (col, l) k).2, heapA h H]) := by
  refine C_enter2 Try.func55 rfl rfl rfl fun β F => ?_
  refine st_mark .here fun c p n cp hnl => ?_
  by_cases h0 : k = 0
  · have e : shadeP H (col, l) k = (col, l) := by rw [shadeP, if_neg (fun h => h.1 h0)]
    rw [e]
    refine go ?_
    refine st_toMark (m := m) (h := h) (c := c) (col := col) (l := l) ?_
    refine WT_end (rs := []) Try.func55 rfl rfl ⟨rfl, rfl⟩
  · refine go ?_
    refine call (markUsed (H := H) k) ?_
    rintro _ _ ⟨rfl, rfl⟩
    cases hu : usedB H k with
    | false =>
      have e : shadeP H (col, l) k = (col, l) := by rw [shadeP, if_neg (fun h => by rw [hu] at h; simp at h)]
      rw [e]
      refine go ?_
      refine st_toMark (m := m) (h := h) (c := c) (col := col) (l := l) ?_
      refine WT_end (rs := []) Try.func55 rfl rfl ⟨rfl, rfl⟩
    | true =>
      refine go ?_
      refine WO_q (q_lookup rfl rfl rfl (by first | exact .head _ | exact .tail _ (.head _) | exact .tail _ (.tail _ (.head _)) | exact .tail _ (.tail _ (.tail _ (.head _))))) rfl rfl rfl ?_
      rw [lkCol]
      by_cases hw : (col k).getD 0 = 0
      · have e : shadeP H (col, l) k = (cset col k 1, l ++ [k]) := by rw [shadeP, if_pos ⟨h0, hu, hw⟩]
        rw [e]
        refine go ?_
        refine WO_mapUpdate rfl rfl rfl rfl (by first | exact .here | exact .there .here | exact .there (.there .here) | exact .there (.there (.there .here))) rfl rfl ?_
        rw [colV_set]
        refine go ?_
        refine WO_append1 (l := l.map encI) rfl rfl rfl rfl rfl rfl rfl rfl (fun _ => rfl) (by rw [List.length_map]; omega) (by decide) rfl (fun _ => rfl) rfl rfl fun v' b => ?_
        refine st_ownV .here fun pv nv cv hv => ?_
        subst hv
        refine go ?_
        refine WO_store rfl rfl rfl rfl rfl (by first | exact .here | exact .there .here | exact .there (.there .here) | exact .there (.there (.there .here))) (.succ (.succ .zero)) rfl rfl ?_
        refine go ?_
        have eL : l.map encI ++ [.int .i64 k] = (l ++ [k]).map encI := by simp
        rw [eL]
        refine st_toMark (m := m) (h := h) (c := c) (col := cset col k 1) (l := l ++ [k]) ?_
        refine pick (As := [markA m h (cset col k 1) (l ++ [k]), heapA h H]) ?_
        refine WT_end (rs := []) Try.func55 rfl rfl ⟨rfl, rfl⟩
      · have e : shadeP H (col, l) k = (col, l) := by rw [shadeP, if_neg (fun h => hw h.2.2)]
        rw [e]
        refine go ?_
        refine st_toMark (m := m) (h := h) (c := c) (col := col) (l := l) ?_
        refine pick (As := [markA m h col l, heapA h H]) ?_
        refine WT_end (rs := []) Try.func55 rfl rfl ⟨rfl, rfl⟩

/-! ### Slices that are read -/
abbrev Src := Option (Nat × Obj)
/-- A slice that is read, and where it lies. -/
def inA (ib : Src) (m : Nat) (v : Value) (l : List Value) : SP := fun h => (∃ c, ib = none ∧ v = .slice none 0 c ∧ m = 0 ∧ l = []) ∨
  ∃ (b off c : Nat) (ls : List Value) (T : TypeId) (fr : Nat × Nat), ib = some (b, .cells ls.toArray T fr) ∧ v = .slice (some ⟨b, off, none⟩) m c ∧ h b = some (.cells ls.toArray T fr) ∧ (ls.drop off).take l.length = l
theorem st_in {β : Bs} {F : SP} {L M : List SP} {X : World → Prop} {ib : Src} {m : Nat} {v : Value} {l : List Value} (r : Rem (inA ib m v l) L M) (h0 : ∀ c, ib = none → v = .slice none 0 c → m = 0 → l = [] → St β F M X)
    (h1 : ∀ (b off c : Nat) (ls : List Value) (T : TypeId) (fr : Nat × Nat), ib = some (b, .cells ls.toArray T fr) → v = .slice (some ⟨b, off, none⟩) m c → (ls.drop off).take l.length = l → St β F (blk b (.cells ls.toArray T fr) :: M) X) : St β F L X := by
  intro w h
  have h3 : sep (inA ib m v l :: F :: M) (hp w) := star_left (h.perm r.perm).heap
  obtain ⟨g1, g2, d, e, hh, y⟩ := h3
  rcases hh with ⟨c, q0, q1, q2, q3⟩ | ⟨b, off, c, ls, T, fr, q0, q1, q2, q3⟩
  · exact h0 c q0 q1 q2 q3 w ((h.perm r.perm).map fun _ s => star_drop s)
  · exact h1 b off c ls T fr q0 q1 q3 w ⟨h.os, h.tape, h.output, h.size, h.free, star_left (B := F) (A := blk b (.cells ls.toArray T fr)) ⟨g1, g2, d, e, q2, y⟩⟩
theorem in_mk {m b off c : Nat} {l ls : List Value} {T : TypeId} {fr : Nat × Nat} (hl : (ls.drop off).take l.length = l) (h : Hp) (s : sep [blk b (.cells ls.toArray T fr)] h) : inA (some (b, .cells ls.toArray T fr)) m (.slice (some ⟨b, off, none⟩) m c) l h :=
  .inr ⟨b, off, c, ls, T, fr, rfl, rfl, sep_get (List.mem_cons_self ..) s, hl⟩
theorem in_nil {c : Nat} (h : Hp) : inA none 0 (.slice none 0 c) [] h := .inl ⟨c, rfl, rfl, rfl, rfl⟩
theorem own_in {T sz n : Nat} {v : Value} {l : List Value} (hn : l.length = n * sz) (h0 : 0 < sz) (h : Hp) (s : ownS T sz v l h) : ∃ ib, inA ib n v l h := by
  rcases s with ⟨rfl, rfl⟩ | ⟨b, k, c, sp, rfl, q2, q3, q4, q5⟩
  · have h9 : n * sz = 0 := by simpa using hn.symm
    rcases Nat.mul_eq_zero.1 h9 with h9 | h9
    · exact ⟨none, .inl ⟨0, rfl, rfl, h9, rfl⟩⟩
    · omega
  · have : k = n := Nat.eq_of_mul_eq_mul_right h0 (q2.symm.trans hn)
    subst this
    exact ⟨_, .inr ⟨b, 0, c, l ++ sp, T, (0, 0), rfl, rfl, q5, by rw [List.drop_zero, List.take_left']; rfl⟩⟩
theorem st_ownIn {β : Bs} {F : SP} {L M : List SP} {X : World → Prop} {T sz n : Nat} {v : Value} {l : List Value} (r : Rem (ownS T sz v l) L M) (hn : l.length = n * sz) (h0 : 0 < sz) (k : ∀ ib, St β F (inA ib n v l :: M) X) : St β F L X :=
  st_ex (p := fun _ => True) (As := fun ib => [inA ib n v l]) r (fun h s => by obtain ⟨ib, hi⟩ := own_in hn h0 h s; exact ⟨ib, trivial, star_true hi⟩) fun ib _ => k ib
theorem shades_le (H : HS) : ∀ (xs : List Int) (s : Col × List Int), (xs.foldl (shadeP H) s).2.length ≤ s.2.length + xs.length
  | [], s => Nat.le_refl _
  | x :: xs, s => by
    have h1 := shades_le H xs (shadeP H s x)
    have h2 := shadeP_le H s x
    simp only [List.foldl_cons, List.length_cons]
    omega
/-- A function value that shades. -/
abbrev shadeF (m : Nat) : Value := .func (.func 55) [.pointer (some ⟨m, 0, none⟩)].toArray ([] : List Value).toArray
theorem markEach {ib : Src} {m h : Nat} {H : HS} {col : Col} {l xs : List Int} {v : Value} {n : Nat} (hn : xs.length = n) (hl : l.length + xs.length ≤ 1000000) : C Try.prog 54 [v, shadeF m] [inA ib n v (xs.map encI), markA m h col l, heapA h H]
    (fun v' L' => v' = .tuple #[] ∧ L' = [inA ib n v (xs.map encI), markA m h (xs.foldl (shadeP H) (col, l)).1 (xs.foldl (shadeP H) (col, l)).2, heapA h H]) := by
  refine C_enter2 Try.func54 rfl rfl rfl fun β F => ?_
  refine st_in .here (fun c hi0 hv hm hl0 => ?_) (fun b off c ls T fr hi0 hv hls => ?_)
  · have hx : xs = [] := by simpa using hl0
    subst hi0 hv hx hm
    refine go ?_
    refine WT_loopN 0 (fun _ => True) (fun i => _) (fun _ => [markA m h col l, heapA h H]) ?_ 0 (Nat.zero_le _) trivial
    intro i hi _ ih
    have : i = 0 := by omega
    subst this
    refine go ?_
    refine st_fold (A := inA none 0 (.slice none 0 c) []) (As := []) .nil (fun h _ => in_nil h) ?_
    refine WT_end (rs := []) Try.func54 rfl rfl ⟨rfl, rfl⟩
  · subst hi0 hv
    refine go ?_
    refine WT_keep [8, 7, 6, 1] rfl ?_
    refine WT_loopN n (fun _ => True) (fun i => [(8, .int .i64 (i : Int)), (7, .int .i64 (n : Int)), (6, .slice (some ⟨b, off, none⟩) n c), (1, shadeF m)])
      (fun i => [blk b (.cells ls.toArray T fr), markA m h ((xs.take i).foldl (shadeP H) (col, l)).1 ((xs.take i).foldl (shadeP H) (col, l)).2, heapA h H]) ?_ 0 (Nat.zero_le _) trivial
    intro i hi _ ih
    by_cases hlt : i < n
    · obtain ⟨x, hx⟩ : ∃ x, xs[i]? = some x := ⟨xs[i], by simp⟩
      have hat : ls[off + i * 1]? = some (encI x) := by
        rw [Nat.mul_one, getElem?_of_take hls (by simp; omega)]
        simp [hx]
      have htk : xs.take (i + 1) = xs.take i ++ [x] := by rw [List.take_add_one, hx]; rfl
      have hle := shades_le H (xs.take i) (col, l)
      refine go ?_
      refine WO_callV (us := [.pointer (some ⟨m, 0, none⟩)]) rfl rfl rfl (markShade (m := m) (h := h) (H := H) (col := ((xs.take i).foldl (shadeP H) (col, l)).1) (l := ((xs.take i).foldl (shadeP H) (col, l)).2) x (by simp only [List.length_take] at hle; omega)) remsA rfl rfl rfl ?_
      rintro _ _ ⟨rfl, rfl⟩
      refine go ?_
      refine WT_keep [8, 7, 6, 1] rfl ?_
      have := ih hlt trivial
      rw [htk, List.foldl_append] at this
      exact pickN this
    · have hin : i = n := by omega
      subst hin
      rw [List.take_of_length_le (by omega)]
      refine go ?_
      refine st_fold (A := inA (some (b, .cells ls.toArray T fr)) i (.slice (some ⟨b, off, none⟩) i c) (xs.map encI)) (.cons .here .nil) (in_mk hls) ?_
      refine WT_end (rs := []) Try.func54 rfl rfl ⟨rfl, rfl⟩
end Go.Proofs.Ytkknhcdjdcpfcaa
namespace Go.Proofs.Ytkknhcdjdcpfcaa
open Go.Sl Go.Iso
set_option linter.all false

section
variable {m h : Nat} {H : HS} {col : Col} {l : List Int}
theorem markDone : C Try.prog 27 [.pointer (some ⟨m, 0, none⟩)] [markA m h col l] (fun v L' => v = .bool (decide (l = [])) ∧ L' = [markA m h col l]) := by
  refine C_enter1 Try.func27 rfl rfl rfl fun β F => ?_
  refine st_mark .here fun c p n cp hnl => ?_
  refine go ?_
  refine call (markNone (m := m) (h := h) (c := c) (lv := .slice p n cp) (col := col) (l := l)) ?_
  rintro _ _ ⟨rfl, rfl⟩
  refine go ?_
  refine st_toMark (m := m) (h := h) (c := c) (col := col) (l := l) ?_
  refine WT_ret (rs := [.tmp 2]) Try.func27 rfl rfl ⟨?_, rfl⟩
  subst hnl
  cases l with
  | nil => simp [resV]
  | cons a l => simp [resV]; omega
theorem markHeap : C Try.prog 31 [.pointer (some ⟨m, 0, none⟩)] [markA m h col l] (fun v L' => v = .pointer (some ⟨h, 0, none⟩) ∧ L' = [markA m h col l]) := by
  refine C_enter1 Try.func31 rfl rfl rfl fun β F => ?_
  refine st_mark .here fun c p n cp hnl => ?_
  refine go ?_
  refine call (markNone (m := m) (h := h) (c := c) (lv := .slice p n cp) (col := col) (l := l)) ?_
  rintro _ _ ⟨rfl, rfl⟩
  refine go ?_
  refine st_toMark (m := m) (h := h) (c := c) (col := col) (l := l) ?_
  refine WT_ret (rs := [.tmp 2]) Try.func31 rfl rfl ⟨rfl, rfl⟩
/-- The color of a handle, and the error. -/
def colorV (H : HS) (col : Col) (k : Int) : Value := if usedB H k = true then .tuple [.int .i64 ((col k).getD 0), .int .i64 0].toArray else .tuple [.int .i64 0, .int .i64 3].toArray
theorem markColor (k : Int) : C Try.prog 30 [.pointer (some ⟨m, 0, none⟩), .int .i64 k] [markA m h col l, heapA h H] (fun v L' => v = colorV H col k ∧ L' = [markA m h col l, heapA h H]) := by
  refine C_enter2 Try.func30 rfl rfl rfl fun β F => ?_
  refine st_mark .here fun c p n cp hnl => ?_
  refine go ?_
  refine call (markNone (m := m) (h := h) (c := c) (lv := .slice p n cp) (col := col) (l := l)) ?_
  rintro _ _ ⟨rfl, rfl⟩
  refine go ?_
  refine call (markUsed (H := H) k) ?_
  rintro _ _ ⟨rfl, rfl⟩
  cases hu : usedB H k with
  | false =>
    have e : colorV H col k = .tuple [.int .i64 0, .int .i64 3].toArray := by simp [colorV, hu]
    rw [e]
    refine go ?_
    refine st_toMark (m := m) (h := h) (c := c) (col := col) (l := l) ?_
    refine WT_ret (rs := [.tmp 4, .tmp 5]) Try.func30 rfl rfl ⟨rfl, rfl⟩
  | true =>
    have e : colorV H col k = .tuple [.int .i64 ((col k).getD 0), .int .i64 0].toArray := by simp [colorV, hu]
    rw [e]
    refine go ?_
    refine WO_q (q_lookup rfl rfl rfl (by first | exact .head _ | exact .tail _ (.head _) | exact .tail _ (.tail _ (.head _)) | exact .tail _ (.tail _ (.tail _ (.head _))))) rfl rfl rfl ?_
    rw [lkCol]
    refine go ?_
    refine st_toMark (m := m) (h := h) (c := c) (col := col) (l := l) ?_
    refine pick (As := [markA m h col l, heapA h H]) ?_
    refine WT_ret (rs := [.tmp 4, .tmp 5]) Try.func30 rfl rfl ⟨rfl, rfl⟩
theorem markNext {x : Int} {r : List Int} (hl : l = x :: r) : C Try.prog 52 [.pointer (some ⟨m, 0, none⟩)] [markA m h col l] (fun v L' => v = .tuple [.int .i64 x, .int .i64 0].toArray ∧ L' = [markA m h col l]) := by
  refine C_enter1 Try.func52 rfl rfl rfl fun β F => ?_
  refine st_mark .here fun c p n cp hnl => ?_
  refine go ?_
  refine call (markNone (m := m) (h := h) (c := c) (lv := .slice p n cp) (col := col) (l := l)) ?_
  rintro _ _ ⟨rfl, rfl⟩
  have hpos : ¬ ((n : Int) = 0) := by rw [hl] at hnl; simp at hnl; omega
  have hpos' : 0 < n := by omega
  refine st_own (T := 3) (sz := 1) (l := l.map encI) (s := .slice p n cp) (.there (.there .here)) (fun hs _ => ?_) (fun bb Nb cb spb hv hlb hspb hcb => ?_)
  · cases hs; omega
  cases hv
  have at0 : (l.map encI ++ spb)[0 + 0 * 1]? = some (encI x) := by rw [hl]; rfl
  refine go ?_
  refine st_fold (A := ownS 3 1 (.slice (some ⟨bb, 0, none⟩) n cp) (l.map encI)) (.cons .here .nil) (own_mk hlb hspb hcb) ?_
  refine st_toMark (m := m) (h := h) (c := c) (col := col) (l := l) ?_
  refine WT_ret (rs := [.tmp 2, .tmp 3]) Try.func52 rfl rfl ⟨rfl, rfl⟩
theorem markShadeC (k : Int) (hl : l.length ≤ 1000000) (hk : k = 0 ∨ usedB H k = true) : C Try.prog 59 [.pointer (some ⟨m, 0, none⟩), .int .i64 k] [markA m h col l, heapA h H]
    (fun v L' => v = .int .i64 0 ∧ L' = [markA m h (shadeP H (col, l) k).1 (shadeP H (col, l) k).2, heapA h H]) := by
  refine C_enter2 Try.func59 rfl rfl rfl fun β F => ?_
  refine st_mark .here fun c p n cp hnl => ?_
  refine go ?_
  refine call (markNone (m := m) (h := h) (c := c) (lv := .slice p n cp) (col := col) (l := l)) ?_
  rintro _ _ ⟨rfl, rfl⟩
  by_cases h0 : k = 0
  · refine go ?_
    refine st_toMark (m := m) (h := h) (c := c) (col := col) (l := l) ?_
    refine call (markShade (m := m) (h := h) (H := H) k hl) ?_
    rintro _ _ ⟨rfl, rfl⟩
    refine go ?_
    refine WT_ret (rs := [.tmp 4]) Try.func59 rfl rfl ⟨rfl, rfl⟩
  · refine go ?_
    refine call (markUsed (H := H) k) ?_
    rintro _ _ ⟨rfl, rfl⟩
    rw [hk.resolve_left h0]
    refine go ?_
    refine st_toMark (m := m) (h := h) (c := c) (col := col) (l := l) ?_
    refine call (markShade (m := m) (h := h) (H := H) k hl) ?_
    rintro _ _ ⟨rfl, rfl⟩
    refine go ?_
    refine WT_ret (rs := [.tmp 4]) Try.func59 rfl rfl ⟨rfl, rfl⟩
/-- What a step does to the colors and the list. -/
def stepP (H : HS) (col : Col) (x : Int) (r : List Int) (X : Th) : Col × List Int := (refsP H.ps X X.len).foldl (shadeP H) (cset col x 2, r)
theorem markStep {x : Int} {r : List Int} {X : Th} (hl : l = x :: r) (hX : lookT H.ths x = some X) (hok : ThOk H.ps X) (hle : l.length ≤ 10000) :
    C Try.prog 28 [.pointer (some ⟨m, 0, none⟩)] [markA m h col l, heapA h H]
      (fun v L' => v = .tuple [.int .i64 x, .int .i64 0].toArray ∧ L' = [markA m h (stepP H col x r X).1 (stepP H col x r X).2, heapA h H]) := by
  have h48 := hok.len
  refine C_enter1 Try.func28 rfl rfl rfl fun β F => ?_
  refine go ?_
  refine call (markNext (m := m) (h := h) (col := col) hl) ?_
  rintro _ _ ⟨rfl, rfl⟩
  refine go ?_
  refine st_mark .here fun c p n cp hnl => ?_
  have hpos : ¬ ((n : Int) = 0) := by rw [hl] at hnl; simp at hnl; omega
  have hpos' : 0 < n := by omega
  have hrn : r.length = n - 1 := by rw [hl] at hnl; simp at hnl; omega
  refine st_own (T := 3) (sz := 1) (l := l.map encI) (s := .slice p n cp) (.there (.there .here)) (fun hs _ => ?_) (fun bb Nb cb spb hv hlb hspb hcb => ?_)
  · cases hs; omega
  cases hv
  refine go ?_
  obtain ⟨o1, ho1⟩ : ∃ o1, o1 = if cp = 1 then 0 else 0 + 1 * 1 := ⟨_, rfl⟩
  refine WO_q (q_sliceS (l := 1) (h := n) rfl rfl rfl rfl (by omega) hcb ho1) rfl rfl rfl ?_
  have hsrc : ((l.map encI ++ spb).drop o1).take (r.map encI).length = r.map encI := by
    by_cases hc1 : cp = 1
    · have : r = [] := List.length_eq_zero_iff.1 (by omega)
      simp [this]
    · rw [ho1, if_neg hc1, hl]
      simp
  refine call (cloneInts (b := bb) (off := o1) (m := n - 1) (c := cp - 1) (T := 3) (fr := (0, 0)) (l := l.map encI ++ spb) (news := r.map encI) hsrc (by simp [hrn]) (fun v hv => by obtain ⟨y, _, rfl⟩ := List.mem_map.1 hv; rfl) (by omega)) ?_
  rintro v _ rfl
  refine st_ownV .here fun pv nv cv hv => ?_
  subst hv
  refine go ?_
  refine WO_store rfl rfl rfl rfl rfl (by first | exact .here | exact .there .here | exact .there (.there .here) | exact .there (.there (.there .here))) (.succ (.succ .zero)) rfl rfl ?_
  refine go ?_
  refine WO_mapUpdate rfl rfl rfl rfl (by first | exact .here | exact .there .here | exact .there (.there .here) | exact .there (.there (.there .here))) rfl rfl ?_
  rw [show (Value.int .i64 2) = encI 2 from rfl, colV_set]
  refine go ?_
  refine call (heapRefsA (H := H) x (fun Y hY => by rw [hX] at hY; cases hY; exact hok)) ?_
  intro v L' hR
  simp only [hX] at hR
  obtain ⟨s, rfl, rfl⟩ := hR
  refine go ?_
  refine st_toMark (m := m) (h := h) (c := c) (lv := .slice pv nv cv) (col := cset col x 2) (l := r) ?_
  refine st_ownIn (T := 3) (sz := 1) (v := s) (l := (refsP H.ps X X.len).map encI) (n := (refsP H.ps X X.len).length) remA (by simp) (by decide) fun ib => ?_
  have hr48 := refsP_le H.ps X X.len
  refine call (markEach (m := m) (h := h) (H := H) (col := cset col x 2) (l := r) (xs := refsP H.ps X X.len) (v := s) rfl (by omega)) ?_
  rintro _ _ ⟨rfl, rfl⟩
  refine go ?_
  refine pickN (As := [markA m h (stepP H col x r X).1 (stepP H col x r X).2, heapA h H]) ?_
  refine WT_ret (rs := [.tmp 2, .tmp 3]) Try.func28 rfl rfl ⟨rfl, rfl⟩
end
end Go.Proofs.Ytkknhcdjdcpfcaa
namespace Go.Proofs.Ytkknhcdjdcpfcaa
open Go.Sl Go.Iso
set_option linter.all false

/-- All steps, so many. -/
inductive Run (H : HS) : Col → List Int → Nat → Col → Prop
  | done {c : Col} : Run H c [] 0 c
  | step {c c' : Col} {x : Int} {r : List Int} {n : Nat} {X : Th} : lookT H.ths x = some X → ThOk H.ps X → (x :: r).length ≤ 10000 → Run H (stepP H c x r X).1 (stepP H c x r X).2 n c' → Run H c (x :: r) (n + 1) c'
theorem markRun {m h : Nat} {H : HS} {col col' : Col} {l : List Int} {n : Nat} (hr : Run H col l n col') (hn : n ≤ 100000) :
    C Try.prog 6 [.pointer (some ⟨m, 0, none⟩)] [markA m h col l, heapA h H] (fun v L' => v = .int .i64 (n : Int) ∧ L' = [markA m h col' [], heapA h H]) := by
  refine C_enter1 Try.func6 rfl rfl rfl fun β F => ?_
  refine go ?_
  refine WT_keep [3, 0] rfl ?_
  refine WT_loopX2 n (fun i c l => Run H c l (n - i) col') (fun i c l => [(3, .int .i64 (i : Int)), (0, .pointer (some ⟨m, 0, none⟩))]) (fun i c l => [markA m h c l, heapA h H]) ?_ 0 col l (Nat.zero_le _) hr
  intro i c l hi hR ih
  refine go ?_
  refine call (markDone (m := m) (h := h) (col := c) (l := l)) ?_
  rintro _ _ ⟨rfl, rfl⟩
  generalize hk : n - i = k at hR
  cases hR with
  | done =>
    have hin : i = n := by omega
    subst hin
    refine go ?_
    refine WT_ret (rs := [.tmp 2]) Try.func6 rfl rfl ⟨rfl, rfl⟩
  | step hX hok hle hR =>
    rename_i x r k' X
    have e : decide (x :: r = []) = false := by simp
    rw [e]
    refine go ?_
    refine call (markStep (m := m) (h := h) (H := H) (col := c) rfl hX hok hle) ?_
    rintro _ _ ⟨rfl, rfl⟩
    refine go ?_
    refine WT_keep [3, 0] rfl ?_
    have hk' : k' = n - (i + 1) := by omega
    rw [hk'] at hR
    exact ih _ _ (by omega) hR

theorem indexFuncInts {ib : Src} {n : Nat} {v : Value} {xs : List Int} {g : FuncId} {caps : List Value} {Lc : List SP} {f : Int → Bool} [Cal Try.prog g] (hlen : xs.length = n) (hn : n ≤ 1000)
    (hg : ∀ q ∈ xs, C Try.prog g ([] ++ [encI q] ++ caps) Lc (fun v L' => v = .bool (f q) ∧ L' = Lc)) :
    C Try.prog 75 [v, .func (.func g) ([] : List Value).toArray caps.toArray] (Lc ++ [inA ib n v (xs.map encI)])
      (fun v' L' => v' = .int .i64 (idx f xs) ∧ L' = Lc ++ [inA ib n v (xs.map encI)]) := by
  refine C_enter2 Try.func75 rfl rfl rfl fun β F => ?_
  refine st_perm List.perm_append_comm ?_
  refine st_in .here (fun c hi0 hv hm hl0 => ?_) (fun b off c ls T fr hi0 hv hls => ?_)
  · have hx : xs = [] := by simpa using hl0
    subst hi0 hv hx hm
    refine go ?_
    refine WT_loopN 0 (fun _ => True) (fun i => _) (fun _ => Lc) ?_ 0 (Nat.zero_le _) trivial
    intro i hi _ ih
    have : i = 0 := by omega
    subst this
    refine go ?_
    refine st_fold (A := inA none 0 (.slice none 0 c) []) (As := []) .nil (fun h _ => in_nil h) ?_
    refine st_perm (M := Lc ++ [inA none 0 (.slice none 0 c) []]) (List.perm_append_comm (l₁ := [_])) ?_
    refine WT_ret (rs := [.tmp 4]) Try.func75 rfl rfl ⟨rfl, rfl⟩
  · subst hi0 hv
    refine go ?_
    refine WT_keep [8, 7, 1, 0] rfl ?_
    refine WT_loopN n (fun k => ∀ j y, j < k → xs[j]? = some y → f y = false) (fun k => [(8, .int .i64 (k : Int)), (7, .int .i64 (n : Int)), (1, .func (.func g) ([] : List Value).toArray caps.toArray), (0, .slice (some ⟨b, off, none⟩) n c)])
      (fun _ => blk b (.cells ls.toArray T fr) :: Lc) ?_ 0 (Nat.zero_le _) (fun j y h => absurd h (Nat.not_lt_zero _))
    intro k hk hall ih
    by_cases hlt : k < n
    · obtain ⟨q, hq⟩ : ∃ q, xs[k]? = some q := ⟨xs[k], by simp⟩
      have hqm := List.mem_of_getElem? hq
      have hat : ls[off + k * 1]? = some (encI q) := by
        rw [Nat.mul_one, getElem?_of_take hls (by simp; omega)]
        simp [hq]
      refine go ?_
      refine st_perm (M := Lc ++ [blk b (.cells ls.toArray T fr)]) (List.perm_append_comm (l₁ := [_])) ?_
      refine WO_callV (us := []) rfl rfl rfl (hg q hqm) (M := [blk b (.cells ls.toArray T fr)]) (rems_app _ _) rfl rfl rfl ?_
      rintro _ L' ⟨rfl, hL⟩
      rw [hL]
      refine st_perm (M := blk b (.cells ls.toArray T fr) :: Lc) (List.perm_append_comm (l₂ := [_])) ?_
      refine go ?_
      refine WT_cond rfl (fun h => ?_) (fun h => ?_)
      · refine go ?_
        refine st_fold (A := inA (some (b, .cells ls.toArray T fr)) n (.slice (some ⟨b, off, none⟩) n c) (xs.map encI)) (.cons .here .nil) (in_mk hls) ?_
        refine st_perm (M := Lc ++ [inA (some (b, .cells ls.toArray T fr)) n (.slice (some ⟨b, off, none⟩) n c) (xs.map encI)]) (List.perm_append_comm (l₁ := [_])) ?_
        refine WT_ret (rs := [.tmp 4]) Try.func75 rfl rfl ⟨by rw [idx_at hq h hall]; rfl, rfl⟩
      · refine go ?_
        refine WT_keep [8, 7, 1, 0] rfl ?_
        refine ih (by omega) (fun j y hj hy => ?_)
        rcases Nat.lt_or_ge j k with h1 | h1
        · exact hall j y h1 hy
        · have : j = k := by omega
          subst this
          rw [hq] at hy; cases hy; exact h
    · refine go ?_
      refine st_fold (A := inA (some (b, .cells ls.toArray T fr)) n (.slice (some ⟨b, off, none⟩) n c) (xs.map encI)) (.cons .here .nil) (in_mk hls) ?_
      refine st_perm (M := Lc ++ [inA (some (b, .cells ls.toArray T fr)) n (.slice (some ⟨b, off, none⟩) n c) (xs.map encI)]) (List.perm_append_comm (l₁ := [_])) ?_
      refine WT_ret (rs := [.tmp 4]) Try.func75 rfl rfl ⟨by rw [idx_none (fun j y hj hy => hall j y (by omega) hy)]; rfl, rfl⟩
theorem idx_any {α : Type} {f : α → Bool} {l : List α} : decide (0 ≤ idx f l) = l.any f := by
  unfold idx
  cases h : l.findIdx? f with
  | none =>
    have := List.findIdx?_eq_none_iff.1 h
    have e : l.any f = false := by
      rw [List.any_eq_false]; intro x hx; simp [this x hx]
    rw [e]; rfl
  | some i =>
    obtain ⟨hlt, hf, _⟩ := List.findIdx?_eq_some_iff_getElem.1 h
    have e : l.any f = true := List.any_eq_true.2 ⟨l[i], List.getElem_mem hlt, hf⟩
    rw [e]; simp
theorem containsFuncInts {ib : Src} {n : Nat} {v : Value} {xs : List Int} {g : FuncId} {caps : List Value} {Lc : List SP} {f : Int → Bool} [Cal Try.prog g] (hlen : xs.length = n) (hn : n ≤ 1000)
    (hg : ∀ q ∈ xs, C Try.prog g ([] ++ [encI q] ++ caps) Lc (fun v L' => v = .bool (f q) ∧ L' = Lc)) :
    C Try.prog 61 [v, .func (.func g) ([] : List Value).toArray caps.toArray] (Lc ++ [inA ib n v (xs.map encI)])
      (fun v' L' => v' = .bool (xs.any f) ∧ L' = Lc ++ [inA ib n v (xs.map encI)]) := by
  refine C_enter2 Try.func61 rfl rfl rfl fun β F => ?_
  refine go ?_
  refine call (M := []) (indexFuncInts hlen hn hg) ?_ rfl rfl (by simpa using rems_app (Lc ++ [inA ib n v (xs.map encI)]) []) rfl rfl rfl
  rintro _ _ ⟨rfl, rfl⟩
  rw [List.append_nil]
  refine go ?_
  refine WT_ret (rs := [.tmp 4]) Try.func61 rfl rfl ⟨by rw [← idx_any]; rfl, rfl⟩

theorem markBegin1 {h a : Nat} {H : HS} (k : Int) : C Try.prog 62 ([] ++ [encI k] ++ [.pointer (some ⟨a, 0, none⟩)]) [cel a [.pointer (some ⟨h, 0, none⟩)] 31, heapA h H]
    (fun v L' => v = .bool (decide (k ≠ 0) && !usedB H k) ∧ L' = [cel a [.pointer (some ⟨h, 0, none⟩)] 31, heapA h H]) := by
  refine C_enter2 Try.func62 rfl rfl rfl fun β F => ?_
  by_cases h0 : k = 0
  · subst h0
    refine go ?_
    refine WT_ret (rs := [.tmp 3]) Try.func62 rfl rfl ⟨rfl, rfl⟩
  · refine go ?_
    refine call (markUsed (H := H) k) ?_
    rintro _ _ ⟨rfl, rfl⟩
    have e : decide (k ≠ 0) = true := by simp [h0]
    rw [e]
    refine go ?_
    refine pick (As := [cel a [.pointer (some ⟨h, 0, none⟩)] 31, heapA h H]) ?_
    refine WT_ret (rs := [.tmp 3]) Try.func62 rfl rfl ⟨rfl, rfl⟩
/-- Roots of which one is not in use. -/
def badR (H : HS) (xs : List Int) : Bool := xs.any fun k => decide (k ≠ 0) && !usedB H k
theorem markBegin {ib : Src} {h n : Nat} {H : HS} {v : Value} {xs : List Int} (hlen : xs.length = n) (hn : n ≤ 1000) : C Try.prog 36 [.pointer (some ⟨h, 0, none⟩), v] [heapA h H, inA ib n v (xs.map encI)]
    (fun v' L' => if badR H xs = true then v' = .tuple [.pointer none, .int .i64 3].toArray ∧ L' = [heapA h H, inA ib n v (xs.map encI)]
      else ∃ m, v' = .tuple [.pointer (some ⟨m, 0, none⟩), .int .i64 0].toArray ∧ L' = [markA m h (xs.foldl (shadeP H) (fun _ => none, [])).1 (xs.foldl (shadeP H) (fun _ => none, [])).2, heapA h H, inA ib n v (xs.map encI)]) := by
  refine C_enter2 Try.func36 rfl rfl rfl fun β F => ?_
  refine go ?_
  refine WO_box rfl rfl rfl rfl rfl rfl fun a => ?_
  refine go ?_
  refine call (heapType (H := H) 0) ?_
  rintro _ _ ⟨rfl, rfl⟩
  have ht : ∃ x y z e, typeV H.ths 0 = .tuple [.int .i64 x, .int .i64 y, .int .i64 z, .int .i64 e].toArray ∧ e ≠ 1 := by
    unfold typeV
    split
    · exact ⟨_, _, _, _, rfl, by decide⟩
    · exact ⟨_, _, _, _, rfl, by decide⟩
  obtain ⟨x, y, z, e, ht, he⟩ := ht
  rw [ht]
  refine go ?_
  refine call (containsFuncInts (g := 62) (caps := [.pointer (some ⟨a, 0, none⟩)]) (Lc := [cel a [.pointer (some ⟨h, 0, none⟩)] 31, heapA h H]) (f := fun k => decide (k ≠ 0) && !usedB H k) (v := v) hlen hn (fun k _ => markBegin1 k)) ?_ (r := remsA)
  rintro _ _ ⟨rfl, rfl⟩
  refine go ?_
  refine WT_cond rfl (fun hb => ?_) (fun hb => ?_)
  · have e1 : badR H xs = true := hb
    refine go ?_
    refine pick (As := [heapA h H, inA ib n v (xs.map encI)]) ?_
    refine WT_ret (rs := [.tmp 4, .tmp 5]) Try.func36 rfl rfl (by rw [if_pos e1]; exact ⟨rfl, rfl⟩)
  · have e1 : ¬ badR H xs = true := by rw [badR, hb]; decide
    refine go ?_
    refine WO_makeMap rfl rfl rfl rfl fun c => ?_
    refine st_fold (A := mapA c (colV fun _ => none)) (As := [blk c (.map #[] 0)]) (.cons .here .nil) (fun k s => ⟨#[], 0, sep_get (List.mem_cons_self ..) s, ⟨by simp, by simp, by simp, by simp⟩, fun _ => rfl⟩) ?_
    refine go ?_
    refine WO_box rfl rfl rfl rfl rfl rfl fun m => ?_
    refine st_fold (A := ownS 3 1 (.slice none 0 0) []) .nil (fun h _ => own_nil h) ?_
    refine st_toMark (m := m) (h := h) (c := c) (lv := .slice none 0 0) (col := fun _ => none) (l := []) ?_
    refine go ?_
    refine call (markEach (m := m) (h := h) (H := H) (col := fun _ => none) (l := []) (xs := xs) (v := v) hlen (by simp; omega)) ?_
    rintro _ _ ⟨rfl, rfl⟩
    refine go ?_
    refine pick (As := [markA m h (xs.foldl (shadeP H) (fun _ => none, [])).1 (xs.foldl (shadeP H) (fun _ => none, [])).2, heapA h H, inA ib n v (xs.map encI)]) ?_
    refine WT_ret (rs := [.tmp 4, .tmp 5]) Try.func36 rfl rfl (by rw [if_neg e1]; exact ⟨m, rfl, rfl⟩)
end Go.Proofs.Ytkknhcdjdcpfcaa
