/- Walks of package refs: Finish. -/
import Derived.Test.YtkknhcdjdcpfcaaInst
import Derived.Test.YtkknhcdjdcpfcaaWRefs4
namespace Go.Proofs.Ytkknhcdjdcpfcaa
open Go.Sl Go.Iso
set_option linter.all false

section
variable {t m h : Nat} {H : HS}
theorem stepR_ok {S S' : TS} {col col' : Col} {l l' : List Int} {a : Int × Int × Int} (hok : TsOk S) (hR : StepR H S col l a S' col' l') (ha : a.2.2 = 0) : TsOk S' := by
  cases hR with
  | mark hs h3 hX hth hle hs2 => exact settles_ok hs2 (settles_ok hs hok)
  | over hs h3 hle => cases ha
  | entry hs h3 he hf hl hq hs2 => exact settles_ok hs2 (stepE_ok (settles_ok hs hok) (List.getElem?_eq_some_iff.1 he).1)
/-- All steps. -/
inductive Fins (H : HS) : TS → Col → List Int → Nat → TS → Col → List Int → Prop
  | over {S S' : TS} {col col' : Col} {l l' : List Int} {x y : Int} : StepR H S col l (x, y, 3) S' col' l' → Fins H S col l 0 S' col' l'
  | more {S S1 S' : TS} {col col1 col' : Col} {l l1 l' : List Int} {x y : Int} {n : Nat} : StepR H S col l (x, y, 0) S1 col1 l1 → Fins H S1 col1 l1 n S' col' l' → Fins H S col l (n + 1) S' col' l'
theorem tabFinish {S S' : TS} {col col' : Col} {l l' : List Int} {n : Nat} (hok : TsOk S) (hF : Fins H S col l n S' col' l') (hn : n ≤ 100000) :
    C Try.prog 10 [.pointer (some ⟨t, 0, none⟩), .pointer (some ⟨m, 0, none⟩)] [tabA t S, markA m h col l, heapA h H]
      (fun v L' => v = .tuple [.int .i64 (n : Int), .int .i64 0].toArray ∧ L' = [tabA t S', markA m h col' l', heapA h H]) := by
  refine C_enter2 Try.func10 rfl rfl rfl fun β F => ?_
  refine go ?_
  refine WT_keep [6, 0, 1] rfl ?_
  refine WT_loopX n (fun i (x : TS × Col × List Int) => TsOk x.1 ∧ Fins H x.1 x.2.1 x.2.2 (n - i) S' col' l') (fun i _ => [(6, .int .i64 (i : Int)), (0, .pointer (some ⟨t, 0, none⟩)), (1, .pointer (some ⟨m, 0, none⟩))])
    (fun _ x => [tabA t x.1, markA m h x.2.1 x.2.2, heapA h H]) ?_ 0 (S, col, l) (Nat.zero_le _) ⟨hok, hF⟩
  intro i x hi ⟨hok, hF⟩ ih
  generalize hd : n - i = d at hF
  cases hF with
  | over hR =>
    have hin : i = n := by omega
    subst hin
    refine go ?_
    refine call (tabStep (t := t) (m := m) (h := h) hok hR) ?_
    rintro _ _ ⟨rfl, rfl⟩
    refine go ?_
    refine WT_ret (rs := [.tmp 4, .tmp 5]) Try.func10 rfl rfl ⟨rfl, rfl⟩
  | more hR hF =>
    rename_i S1 col1 l1 x y k
    have hlt : i + 1 ≤ n := by omega
    refine go ?_
    refine call (tabStep (t := t) (m := m) (h := h) hok hR) ?_
    rintro _ _ ⟨rfl, rfl⟩
    refine go ?_
    refine WT_keep [6, 0, 1] rfl ?_
    refine pickN (ih (S1, col1, l1) hlt ⟨stepR_ok hok hR rfl, ?_⟩)
    rw [show n - (i + 1) = k by omega]
    exact hF
end
end Go.Proofs.Ytkknhcdjdcpfcaa
