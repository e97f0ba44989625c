/- Walks of package object: Set, Type, Refs. -/
import Derived.Test.YtkknhcdjdcpfcaaInst
import Derived.Test.YtkknhcdjdcpfcaaXPool
import Derived.Test.YtkknhcdjdcpfcaaXSm
namespace Go.Proofs.Ytkknhcdjdcpfcaa
open Go.Sl Go.Iso
set_option linter.all false

/-! ### Cells by their addresses -/
def Live (ps : List Pg) (a : Nat) : Prop := ∃ q, LiveAt ps a q
def cellP (ps : List Pg) (a : Nat) : Int := (ps.getD (a / 16) default).cells.getD (a % 16) 0
def setP (ps : List Pg) (a : Nat) (x : Int) : List Pg := setCellP ps a (ps.getD (a / 16) default) x
theorem LiveAt.getD {ps : List Pg} {a : Nat} {q : Pg} (h : LiveAt ps a q) : ps.getD (a / 16) default = q := by
  rw [List.getD_eq_getElem?_getD, h.page]; rfl
theorem cellC {p : Nat} {ps : List Pg} {a : Nat} (h : Live ps a) :
    C Try.prog 92 [.pointer (some ⟨p, 0, none⟩), .int .i64 (a : Int)] [poolA p ps]
      (fun v L' => v = .tuple [.int .i64 (cellP ps a), .int .i64 0].toArray ∧ L' = [poolA p ps]) := by
  obtain ⟨q, h⟩ := h
  rw [cellP, h.getD]
  exact poolCellA h
theorem setCellC {p : Nat} {ps : List Pg} {a : Nat} (h : Live ps a) (x : Int) :
    C Try.prog 45 [.pointer (some ⟨p, 0, none⟩), .int .i64 (a : Int), .int .i64 x] [poolA p ps]
      (fun v L' => v = .int .i64 0 ∧ L' = [poolA p (setP ps a x)]) := by
  obtain ⟨q, h⟩ := h
  rw [setP, h.getD]
  exact poolSetCellA h x

/-! ### Heaps -/
structure HS where
  ps : List Pg
  ths : List (Nat × Th)
def lookT : List (Nat × Th) → Int → Option Th
  | [], _ => none
  | (i, X) :: r, k => if k = (i : Int) then some X else lookT r k
def strip (l : Ths) : List (Nat × Th) := l.map fun x => (x.1, x.2.2)
theorem look_strip (k : Int) : ∀ l : Ths, (look l k).map (·.2) = lookT (strip l) k
  | [] => rfl
  | (i, t, X) :: r => by
    simp only [look, strip, List.map_cons, lookT]
    by_cases h : k = (i : Int)
    · simp [h]
    · simp only [h, if_false]; exact look_strip k r
def thsA (ths : Ths) : SP := fun h => sep (ths.map fun x => thingA x.2.1 x.2.2) h
abbrev heap4 (h p m : Nat) (ps : List Pg) (ths : Ths) : List SP := [cel h [.pointer (some ⟨p, 0, none⟩), .map (some m)] 98, mapA m (lookV ths), poolA p ps, thsA ths]
def heapA (h : Nat) (H : HS) : SP := fun k => ∃ x : Nat × Nat × Ths, strip x.2.2 = H.ths ∧ sep (heap4 h x.1 x.2.1 H.ps x.2.2) k
theorem st_heap {β : Bs} {F : SP} {L M : List SP} {X : World → Prop} {h : Nat} {H : HS} (r : Rem (heapA h H) L M)
    (k : ∀ p m ths, strip ths = H.ths → St β F (heap4 h p m H.ps ths ++ M) X) : St β F L X :=
  st_ex r (fun h s => s) fun x hx => k x.1 x.2.1 x.2.2 hx
theorem st_toHeap {β : Bs} {F : SP} {L M : List SP} {X : World → Prop} {h p m : Nat} {ps : List Pg} {ths : Ths} {H : HS} (hs : strip ths = H.ths) (hp : ps = H.ps) (k : St β F (heapA h H :: M) X)
    (r : autoParam (Rems (heap4 h p m ps ths) L M) pick._auto_1) : St β F L X := by
  subst hp
  exact st_fold r (fun k s => ⟨(p, m, ths), hs, s⟩) k
theorem sep_mid {A : SP} {l1 l2 : List SP} {h : Hp} : sep (l1 ++ A :: l2) h ↔ sep (A :: (l1 ++ l2)) h :=
  ⟨sep_perm List.perm_middle, sep_perm List.perm_middle.symm⟩
theorem ths_split {k : Int} {t : Nat} {X : Th} : ∀ {ths : Ths}, look ths k = some (t, X) → ∃ a b i, k = ((i : Nat) : Int) ∧ ths = a ++ (i, t, X) :: b
  | [], h => by cases h
  | (i, t', X') :: r, h => by
    simp only [look] at h
    split at h
    · rename_i hk
      simp only [Option.some.injEq, Prod.mk.injEq] at h
      obtain ⟨rfl, rfl⟩ := h
      exact ⟨[], r, i, hk, rfl⟩
    · obtain ⟨a, b, j, hj, rfl⟩ := ths_split h
      exact ⟨(i, t', X') :: a, b, j, hj, rfl⟩
/-- One thing is taken out. -/
theorem st_one {β : Bs} {F : SP} {L M : List SP} {Y : World → Prop} {ths : Ths} {k : Int} {t : Nat} {X : Th} (hl : look ths k = some (t, X)) (r : Rem (thsA ths) L M)
    (K : ∀ R : SP, (∀ h, sep [thingA t X, R] h → thsA ths h) → St β F (thingA t X :: R :: M) Y) : St β F L Y := by
  obtain ⟨a, b, i, _, rfl⟩ := ths_split hl
  refine st_open (As := [thingA t X, fun h => sep ((a ++ b).map fun x => thingA x.2.1 x.2.2) h]) r (fun h s => ?_) (K _ fun h s => ?_)
  · simp only [thsA, List.map_append, List.map_cons] at s
    have := sep_mid.1 s
    refine star_mono (fun _ x => x) (fun _ x => ?_) this
    exact star_true (by rw [List.map_append]; exact x)
  · simp only [thsA, List.map_append, List.map_cons]
    refine sep_mid.2 ?_
    have : sep ([thingA t X] ++ ((a ++ b).map fun x => thingA x.2.1 x.2.2)) h := append_sep (star_assoc' (star_mono (fun _ x => x) (fun _ x => star_drop (star_comm (star_mono (fun _ z => z) (fun _ _ => trivial) x)) |> fun y => star_comm (star_true y) |> star_mono (fun _ _ => trivial) (fun _ z => z)) s))
    simpa using this
theorem st_unone {β : Bs} {F : SP} {L M : List SP} {Y : World → Prop} {ths : Ths} {t : Nat} {X : Th} {R : SP} (f : ∀ h, sep [thingA t X, R] h → thsA ths h) (K : St β F (thsA ths :: M) Y)
    (r : autoParam (Rems [thingA t X, R] L M) pick._auto_1) : St β F L Y := st_fold r f K

/-! ### Things -/
/-- A thing is as things are, in these pages. -/
structure ThOk (ps : List Pg) (X : Th) : Prop where
  pos : 0 < X.blocks.length
  many : ∀ s, s < X.len → X.blocks.length > 1 → 1 + s / 8 < X.blocks.length
  len : X.len ≤ 48
  bnd : ∀ a ∈ X.blocks, a ≤ 1000
  most : X.blocks.length ≤ 1000
  refs : X.kind = 2 → X.refs.length = X.len
  live : ∀ s, s < X.len → Live ps (cellAddr X s)
def isRefT (X : Th) (s : Nat) : Bool := decide (X.kind = 4) || (decide (X.kind = 2) && X.refs.getD s false)
theorem thingCellA {ps : List Pg} {t : Nat} {X : Th} {s : Nat} (h : ThOk ps X) (hs : s < X.len) :
    C Try.prog 46 [.pointer (some ⟨t, 0, none⟩), .int .i64 (s : Int)] [thingA t X] (fun v L' => v = .int .i64 (cellAddr X s : Int) ∧ L' = [thingA t X]) :=
  thingCell h.pos (h.many s hs) (by have := h.len; omega) h.bnd h.most
theorem thingIsRef {ps : List Pg} {t : Nat} {X : Th} {s : Nat} (h : ThOk ps X) (hs : s < X.len) :
    C Try.prog 44 [.pointer (some ⟨t, 0, none⟩), .int .i64 (s : Int)] [thingA t X] (fun v L' => v = .bool (isRefT X s) ∧ L' = [thingA t X]) := by
  refine C_enter2 Try.func44 rfl rfl rfl fun β F => ?_
  refine st_thing .here fun rv bb c sp hc hsp => ?_
  by_cases h4 : X.kind = 4
  · have e : isRefT X s = true := by simp [isRefT, h4]
    rw [e]
    refine go ?_
    refine st_toThing (X := X) (.cons .here (.cons .here (.cons .here .nil))) hc hsp ?_
    refine WT_ret (rs := [.tmp 4]) Try.func44 rfl rfl ⟨rfl, rfl⟩
  · by_cases h2 : X.kind = 2
    · have hl := h.refs h2
      have e : isRefT X s = X.refs.getD s false := by simp [isRefT, h2]
      rw [e]
      refine st_own (.there (.there .here)) (fun _ h0 => ?_) (fun b k c' sp' hrv hk hsp' hkc => ?_)
      · exfalso
        have : X.refs = [] := by simpa using h0
        rw [this] at hl; simp at hl; omega
      subst hrv
      have hk' : k = X.len := by simpa [hl] using hk.symm
      subst hk'
      have hat : (X.refs.map Value.bool ++ sp')[0 + s * 1]? = some (.bool (X.refs.getD s false)) := by
        rw [Nat.zero_add, Nat.mul_one, List.getElem?_append_left (by simp [hl]; exact hs)]
        have : s < X.refs.length := by omega
        simp [this]
      refine go ?_
      refine WT_keep [4] rfl ?_
      refine st_fold (A := ownS 4 1 (.slice (some ⟨b, 0, none⟩) X.len c') (X.refs.map Value.bool)) (.cons .here .nil) (own_mk hk hsp' hkc) ?_
      refine st_toThing (X := X) (.cons (.there .here) (.cons (.there .here) (.cons .here .nil))) hc hsp ?_
      refine WT_ret (rs := [.tmp 4]) Try.func44 rfl rfl ⟨rfl, rfl⟩
    · have e : isRefT X s = false := by simp [isRefT, h2, h4]
      rw [e]
      refine go ?_
      refine st_toThing (X := X) (.cons .here (.cons .here (.cons .here .nil))) hc hsp ?_
      refine WT_ret (rs := [.tmp 4]) Try.func44 rfl rfl ⟨rfl, rfl⟩

/-- The pointer of a handle that has a slot. -/
def slotV (ths : Ths) (k s : Int) : Value := match look ths k with
  | some x => if s < 0 ∨ (x.2.len : Int) ≤ s then .tuple [.pointer none, .int .i64 1].toArray else .tuple [.pointer (some ⟨x.1, 0, none⟩), .int .i64 0].toArray
  | none => .tuple [.pointer none, .int .i64 3].toArray
abbrev heap3 (h p m : Nat) (ths : Ths) : List SP := [cel h [.pointer (some ⟨p, 0, none⟩), .map (some m)] 98, mapA m (lookV ths), thsA ths]
theorem heapSlot {h p m : Nat} {ths : Ths} (k s : Int) : C Try.prog 43 [.pointer (some ⟨h, 0, none⟩), .int .i64 k, .int .i64 s] (heap3 h p m ths) (fun v L' => v = slotV ths k s ∧ L' = heap3 h p m ths) := by
  refine C_enter3 Try.func43 rfl rfl rfl fun β F => ?_
  refine go ?_
  refine call (heapFind (p := p) (m := m) (ths := ths) k) ?_
  rintro _ _ ⟨rfl, rfl⟩
  cases hl : look ths k with
  | none =>
    have e : findV ths k = .tuple [.pointer none, .int .i64 3].toArray := by simp [findV, hl]
    have e' : slotV ths k s = .tuple [.pointer none, .int .i64 3].toArray := by simp [slotV, hl]
    rw [e, e']
    refine go ?_
    refine WT_ret (rs := [.tmp 6, .tmp 7]) Try.func43 rfl rfl ⟨rfl, rfl⟩
  | some x =>
    obtain ⟨t, X⟩ := x
    have e : findV ths k = .tuple [.pointer (some ⟨t, 0, none⟩), .int .i64 0].toArray := by simp [findV, hl]
    rw [e]
    refine st_one hl (.there (.there .here)) fun R hR => ?_
    refine st_thing .here fun rv bb c sp hc hsp => ?_
    by_cases h1 : s < 0
    · have e' : slotV ths k s = .tuple [.pointer none, .int .i64 1].toArray := by simp [slotV, hl, h1]
      rw [e']
      refine go ?_
      refine st_toThing (X := X) (.cons .here (.cons .here (.cons .here .nil))) hc hsp ?_
      refine st_unone hR ?_
      refine pick (As := heap3 h p m ths) ?_
      refine WT_ret (rs := [.tmp 6, .tmp 7]) Try.func43 rfl rfl ⟨rfl, rfl⟩
    · by_cases h2 : (X.len : Int) ≤ s
      · have e' : slotV ths k s = .tuple [.pointer none, .int .i64 1].toArray := by simp [slotV, hl, h1, h2]
        rw [e']
        refine go ?_
        refine st_toThing (X := X) (.cons .here (.cons .here (.cons .here .nil))) hc hsp ?_
        refine st_unone hR ?_
        refine pick (As := heap3 h p m ths) ?_
        refine WT_ret (rs := [.tmp 6, .tmp 7]) Try.func43 rfl rfl ⟨rfl, rfl⟩
      · have e' : slotV ths k s = .tuple [.pointer (some ⟨t, 0, none⟩), .int .i64 0].toArray := by simp [slotV, hl, h1, h2]
        rw [e']
        refine go ?_
        refine st_toThing (X := X) (.cons .here (.cons .here (.cons .here .nil))) hc hsp ?_
        refine st_unone hR ?_
        refine pick (As := heap3 h p m ths) ?_
        refine WT_ret (rs := [.tmp 6, .tmp 7]) Try.func43 rfl rfl ⟨rfl, rfl⟩

theorem look_some {ths : Ths} {l : List (Nat × Th)} {k : Int} {X : Th} (h : strip ths = l) (hl : lookT l k = some X) : ∃ t, look ths k = some (t, X) := by
  rw [← h, ← look_strip] at hl
  cases hk : look ths k with
  | none => rw [hk] at hl; cases hl
  | some x => rw [hk] at hl; simp at hl; exact ⟨x.1, by rw [← hl]⟩
theorem look_none {ths : Ths} {l : List (Nat × Th)} {k : Int} (h : strip ths = l) (hl : lookT l k = none) : look ths k = none := by
  rw [← h, ← look_strip] at hl
  simpa using hl
/-- Kind, class and length of a handle. -/
def typeV (l : List (Nat × Th)) (k : Int) : Value := match lookT l k with
  | some X => .tuple [.int .i64 X.kind, .int .i64 X.cls, .int .i64 (X.len : Int), .int .i64 0].toArray
  | none => .tuple [.int .i64 0, .int .i64 0, .int .i64 0, .int .i64 3].toArray
theorem heapType {h : Nat} {H : HS} (k : Int) : C Try.prog 60 [.pointer (some ⟨h, 0, none⟩), .int .i64 k] [heapA h H] (fun v L' => v = typeV H.ths k ∧ L' = [heapA h H]) := by
  refine C_enter2 Try.func60 rfl rfl rfl fun β F => ?_
  refine st_heap .here fun p m ths hs => ?_
  refine go ?_
  refine call (heapFind (p := p) (m := m) (ths := ths) k) ?_
  rintro _ _ ⟨rfl, rfl⟩
  cases hl : lookT H.ths k with
  | none =>
    have hk := look_none hs hl
    have e : findV ths k = .tuple [.pointer none, .int .i64 3].toArray := by simp [findV, hk]
    have e' : typeV H.ths k = .tuple [.int .i64 0, .int .i64 0, .int .i64 0, .int .i64 3].toArray := by simp [typeV, hl]
    rw [e, e']
    refine go ?_
    refine st_toHeap (H := H) (p := p) (m := m) (ths := ths) hs rfl ?_
    refine WT_ret (rs := [.tmp 4, .tmp 5, .tmp 6, .tmp 7]) Try.func60 rfl rfl ⟨rfl, rfl⟩
  | some X =>
    obtain ⟨t, hk⟩ := look_some hs hl
    have e : findV ths k = .tuple [.pointer (some ⟨t, 0, none⟩), .int .i64 0].toArray := by simp [findV, hk]
    have e' : typeV H.ths k = .tuple [.int .i64 X.kind, .int .i64 X.cls, .int .i64 (X.len : Int), .int .i64 0].toArray := by simp [typeV, hl]
    rw [e, e']
    refine go ?_
    refine st_one hk (by first | exact .here | exact .there .here | exact .there (.there .here) | exact .there (.there (.there .here))) fun R hR => ?_
    refine st_thing .here fun rv bb c sp hc hsp => ?_
    refine WT_quiet (by kernel_rfl) ?_
    refine go ?_
    refine st_toThing (X := X) (.cons .here (.cons .here (.cons .here .nil))) hc hsp ?_
    refine st_unone hR ?_
    refine st_toHeap (H := H) (p := p) (m := m) (ths := ths) hs rfl ?_
    refine WT_ret (rs := [.tmp 4, .tmp 5, .tmp 6, .tmp 7]) Try.func60 rfl rfl ⟨rfl, rfl⟩

/-- The references of a thing, those of its first k slots. -/
def refsP (ps : List Pg) (X : Th) : Nat → List Int
  | 0 => []
  | k + 1 => refsP ps X k ++ if isRefT X k = true ∧ cellP ps (cellAddr X k) ≠ 0 then [cellP ps (cellAddr X k)] else []
theorem refsP_le (ps : List Pg) (X : Th) : ∀ k, (refsP ps X k).length ≤ k
  | 0 => by simp [refsP]
  | k + 1 => by
    have := refsP_le ps X k
    simp only [refsP, List.length_append]
    split <;> simp <;> omega
abbrev heapP (h p : Nat) (mv : Value) : SP := cel h [.pointer (some ⟨p, 0, none⟩), mv] 98
abbrev encI (x : Int) : Value := .int .i64 x
theorem heapRefs {h p t : Nat} {mv : Value} {ps : List Pg} {X : Th} (hX : ThOk ps X) :
    C Try.prog 74 [.pointer (some ⟨h, 0, none⟩), .pointer (some ⟨t, 0, none⟩)] [heapP h p mv, poolA p ps, thingA t X]
      (fun v L' => L' = [heapP h p mv, poolA p ps, thingA t X, ownS 3 1 v ((refsP ps X X.len).map encI)]) := by
  have h48 := hX.len
  refine C_enter2 Try.func74 rfl rfl rfl fun β F => ?_
  refine go ?_
  refine st_thing (.there (.there .here)) fun rv bb c sp hc hsp => ?_
  refine go ?_
  refine st_toThing (X := X) (.cons .here (.cons .here (.cons .here .nil))) hc hsp ?_
  refine WT_keep [13, 12, 5, 4, 0, 1] rfl ?_
  refine st_fold (A := ownS 3 1 (.slice none 0 0) []) .nil (fun h _ => own_nil h) ?_
  refine WT_loopX X.len (fun _ (_ : Value) => True) (fun k v => [(13, .int .i64 (k : Int)), (12, .int .i64 (X.len : Int)), (5, v), (4, .slice none 0 0), (0, .pointer (some ⟨h, 0, none⟩)), (1, .pointer (some ⟨t, 0, none⟩))])
    (fun k v => [ownS 3 1 v ((refsP ps X k).map encI), thingA t X, heapP h p mv, poolA p ps]) ?_ 0 (.slice none 0 0) (Nat.zero_le _) trivial
  intro k v hk _ ih
  by_cases hlt : k < X.len
  · have next : ∀ v', St β F [ownS 3 1 v' ((refsP ps X (k + 1)).map encI), thingA t X, heapP h p mv, poolA p ps] _ := fun v' => ih v' hlt trivial
    refine go ?_
    refine call (thingIsRef hX hlt) ?_
    rintro _ _ ⟨rfl, rfl⟩
    cases hr : isRefT X k with
    | false =>
      have e : refsP ps X (k + 1) = refsP ps X k := by simp [refsP, hr]
      rw [e] at next
      refine go ?_
      refine WT_keep [13, 12, 5, 4, 0, 1] rfl ?_
      refine pick (As := [ownS 3 1 v ((refsP ps X k).map encI), thingA t X, heapP h p mv, poolA p ps]) ?_
      exact next v
    | true =>
      refine go ?_
      refine WT_quiet (by kernel_rfl) ?_
      refine go ?_
      refine callQ (thingCellA hX hlt) ?_
      refine go ?_
      refine callQ (cellC (hX.live k hlt)) ?_
      by_cases hz : cellP ps (cellAddr X k) = 0
      · have e : refsP ps X (k + 1) = refsP ps X k := by simp [refsP, hr, hz]
        rw [e] at next
        refine go ?_
        refine WT_keep [13, 12, 5, 4, 0, 1] rfl ?_
        refine pick (As := [ownS 3 1 v ((refsP ps X k).map encI), thingA t X, heapP h p mv, poolA p ps]) ?_
        exact next v
      · have e : refsP ps X (k + 1) = refsP ps X k ++ [cellP ps (cellAddr X k)] := by simp [refsP, hr, hz]
        rw [e, List.map_append] at next
        have hle := refsP_le ps X k
        refine go ?_
        refine WO_append1 (l := (refsP ps X k).map encI) rfl rfl rfl rfl rfl rfl rfl rfl (fun _ => rfl) (by simp; omega) (by decide) rfl (fun _ => rfl) rfl rfl fun v' b => ?_
        refine go ?_
        refine WT_keep [13, 12, 5, 4, 0, 1] rfl ?_
        refine pick (As := [ownS 3 1 v' ((refsP ps X k).map encI ++ [encI (cellP ps (cellAddr X k))]), thingA t X, heapP h p mv, poolA p ps]) ?_
        exact next v'
  · have hkn : k = X.len := by omega
    subst hkn
    refine go ?_
    refine pick (As := [heapP h p mv, poolA p ps, thingA t X, ownS 3 1 v ((refsP ps X X.len).map encI)]) ?_
    refine WT_ret (rs := [.tmp 4]) Try.func74 rfl rfl rfl
end Go.Proofs.Ytkknhcdjdcpfcaa
