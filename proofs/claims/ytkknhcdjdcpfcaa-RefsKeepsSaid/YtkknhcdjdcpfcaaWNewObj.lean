/- Walks of package object: NewObject. -/
import Derived.Test.YtkknhcdjdcpfcaaInst
import Derived.Test.YtkknhcdjdcpfcaaWAdd
namespace Go.Proofs.Ytkknhcdjdcpfcaa
open Go.Sl Go.Iso
set_option linter.all false

/-- What an answer with a new handle is. -/
def newR (h : Nat) (H : HS) (n : Nat) (X : Th) (M : List SP) (v : Value) (L' : List SP) : Prop := match addS H n X with
  | none => v = .tuple [.int .i64 0, .int .i64 14].toArray ∧ L' = heapA h H :: M
  | some (n, H') => v = .tuple [.int .i64 (n : Int), .int .i64 0].toArray ∧ L' = heapA h H' :: M
theorem heapNewObject {h : Nat} {H : HS} {n : Nat} {k : Int} {us : List Bool} {b off c : Nat} {l : List Value} {T : TypeId} {fr : Nat × Nat} (hk : 0 ≤ k ∧ k < 10) (hus : us.length ≤ 7)
    (hl : (l.drop off).take us.length = us.map Value.bool) (ha : AddOk H n us.length) :
    C Try.prog 20 [.pointer (some ⟨h, 0, none⟩), .int .i64 k, .slice (some ⟨b, off, none⟩) us.length c] [heapA h H, blk b (.cells l.toArray T fr)]
      (newR h H n { kind := 2, cls := k, len := us.length, refs := us, blocks := [] } [blk b (.cells l.toArray T fr)]) := by
  refine C_enter3 Try.func20 rfl rfl rfl fun β F => ?_
  refine st_heap .here fun p m ths hs => ?_
  refine go ?_
  refine call (heapNone (p := p) (m := m) (ths := ths)) ?_
  rintro _ _ ⟨rfl, rfl⟩
  refine go ?_
  refine st_toHeap (H := H) (p := p) (m := m) (ths := ths) hs rfl ?_
  refine call (cloneBools (b := b) (off := off) (m := us.length) (c := c) (T := T) (fr := fr) (l := l) (news := us.map Value.bool) (by simpa using hl) (by simp) (fun v hv => by obtain ⟨x, _, rfl⟩ := List.mem_map.1 hv; rfl) (by omega)) ?_
  rintro v _ rfl
  refine st_ownV .here fun pv nv cv hv => ?_
  subst hv
  refine go ?_
  refine call (heapAdd (H := H) (n := n) (X := { kind := 2, cls := k, len := us.length, refs := us, blocks := [] }) (rv := .slice pv nv cv) rfl ha) ?_
  intro v' L' hR
  cases hA : addS H n { kind := 2, cls := k, len := us.length, refs := us, blocks := [] } with
  | none =>
    simp only [hA] at hR
    obtain ⟨rfl, rfl⟩ := hR
    refine go ?_
    refine WT_ret (rs := [.tmp 6, .tmp 7]) Try.func20 rfl rfl (by simp only [newR, hA]; exact ⟨rfl, rfl⟩)
  | some r =>
    obtain ⟨n', H'⟩ := r
    simp only [hA] at hR
    obtain ⟨rfl, rfl⟩ := hR
    refine go ?_
    refine WT_ret (rs := [.tmp 6, .tmp 7]) Try.func20 rfl rfl (by simp only [newR, hA]; exact ⟨rfl, rfl⟩)
end Go.Proofs.Ytkknhcdjdcpfcaa
