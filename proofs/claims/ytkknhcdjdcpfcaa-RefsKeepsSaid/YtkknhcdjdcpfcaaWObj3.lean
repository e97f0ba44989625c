/- Walks of package object: Refs, Set. -/
import Derived.Test.YtkknhcdjdcpfcaaInst
import Derived.Test.YtkknhcdjdcpfcaaWObj2
namespace Go.Proofs.Ytkknhcdjdcpfcaa
open Go.Sl Go.Iso
set_option linter.all false

theorem heapRefsA {h : Nat} {H : HS} (k : Int) (hok : ∀ X, lookT H.ths k = some X → ThOk H.ps X) : C Try.prog 53 [.pointer (some ⟨h, 0, none⟩), .int .i64 k] [heapA h H]
    (fun v L' => match lookT H.ths k with
      | some X => ∃ s, v = .tuple [s, .int .i64 0].toArray ∧ L' = [heapA h H, ownS 3 1 s ((refsP H.ps X X.len).map encI)]
      | none => v = .tuple [.slice none 0 0, .int .i64 3].toArray ∧ L' = [heapA h H]) := by
  refine C_enter2 Try.func53 rfl rfl rfl fun β F => ?_
  refine st_heap .here fun p m ths hs => ?_
  refine go ?_
  refine call (heapFind (p := p) (m := m) (ths := ths) k) ?_
  rintro _ _ ⟨rfl, rfl⟩
  cases hl : lookT H.ths k with
  | none =>
    have hk := look_none hs hl
    have e : findV ths k = .tuple [.pointer none, .int .i64 3].toArray := by simp [findV, hk]
    rw [e]
    refine go ?_
    refine st_toHeap (H := H) (p := p) (m := m) (ths := ths) hs rfl ?_
    refine WT_ret (rs := [.tmp 4, .tmp 5]) Try.func53 rfl rfl ⟨rfl, rfl⟩
  | some X =>
    obtain ⟨t, hk⟩ := look_some hs hl
    have e : findV ths k = .tuple [.pointer (some ⟨t, 0, none⟩), .int .i64 0].toArray := by simp [findV, hk]
    rw [e]
    refine go ?_
    refine st_one hk (by first | exact .here | exact .there .here | exact .there (.there .here) | exact .there (.there (.there .here))) fun R hR => ?_
    refine call (heapRefs (h := h) (p := p) (t := t) (mv := .map (some m)) (ps := H.ps) (hok X hl)) ?_
    rintro s _ rfl
    refine go ?_
    refine st_unone hR ?_
    refine st_toHeap (H := H) (p := p) (m := m) (ths := ths) hs rfl ?_
    refine WT_ret (rs := [.tmp 4, .tmp 5]) Try.func53 rfl rfl ⟨s, rfl, rfl⟩

/-- What Set answers, and what it leaves. -/
def setS (H : HS) (k s x : Int) : Int × HS := match lookT H.ths k with
  | none => (3, H)
  | some X => if s < 0 ∨ (X.len : Int) ≤ s then (1, H) else
    if isRefT X s.toNat = true then if x ≠ 0 ∧ lookT H.ths x = none then (1, H) else (0, { H with ps := setP H.ps (cellAddr X s.toNat) x })
    else if x < -2147483648 ∨ 2147483647 < x then (1, H) else (0, { H with ps := setP H.ps (cellAddr X s.toNat) x })
theorem heapSet {h : Nat} {H : HS} (k s x : Int) (hok : ∀ X, lookT H.ths k = some X → ThOk H.ps X) : C Try.prog 22 [.pointer (some ⟨h, 0, none⟩), .int .i64 k, .int .i64 s, .int .i64 x] [heapA h H]
    (fun v L' => v = .int .i64 (setS H k s x).1 ∧ L' = [heapA h (setS H k s x).2]) := by
  refine C_enter4 Try.func22 rfl rfl rfl fun β F => ?_
  refine st_heap .here fun p m ths hs => ?_
  refine go ?_
  refine call (heapSlot (p := p) (m := m) (ths := ths) k s) ?_
  rintro _ _ ⟨rfl, rfl⟩
  cases hl : lookT H.ths k with
  | none =>
    have hk := look_none hs hl
    have e : slotV ths k s = .tuple [.pointer none, .int .i64 3].toArray := by simp [slotV, hk]
    have e' : setS H k s x = (3, H) := by simp [setS, hl]
    rw [e, e']
    refine go ?_
    refine st_toHeap (H := H) (p := p) (m := m) (ths := ths) hs rfl ?_
    refine WT_ret (rs := [.tmp 8]) Try.func22 rfl rfl ⟨rfl, rfl⟩
  | some X =>
    obtain ⟨t, hk⟩ := look_some hs hl
    by_cases hr : s < 0 ∨ (X.len : Int) ≤ s
    · have e : slotV ths k s = .tuple [.pointer none, .int .i64 1].toArray := by simp [slotV, hk, hr]
      have e' : setS H k s x = (1, H) := by simp [setS, hl, hr]
      rw [e, e']
      refine go ?_
      refine st_toHeap (H := H) (p := p) (m := m) (ths := ths) hs rfl ?_
      refine WT_ret (rs := [.tmp 8]) Try.func22 rfl rfl ⟨rfl, rfl⟩
    · have hX := hok X hl
      obtain ⟨s', rfl⟩ : ∃ s' : Nat, s = (s' : Int) := ⟨s.toNat, by omega⟩
      have hlt : s' < X.len := by omega
      have e : slotV ths k (s' : Int) = .tuple [.pointer (some ⟨t, 0, none⟩), .int .i64 0].toArray := by simp only [slotV, hk]; rw [if_neg hr]
      have hnat : ((s' : Int)).toNat = s' := Int.toNat_natCast s'
      rw [e]
      refine go ?_
      refine st_one hk (by first | exact .here | exact .there .here | exact .there (.there .here) | exact .there (.there (.there .here))) fun R hR => ?_
      refine call (thingIsRef hX hlt) ?_
      rintro _ _ ⟨rfl, rfl⟩
      cases hf : isRefT X s' with
      | true =>
        by_cases h0 : x = 0
        · have e' : setS H k (s' : Int) x = (0, { H with ps := setP H.ps (cellAddr X s') x }) := by simp only [setS, hl, hnat]; rw [if_neg hr, if_pos hf, if_neg (by simp [h0])]
          rw [e']
          refine go ?_
          refine WT_tail 8 (by kernel_rfl) (.succ (.succ (.succ (.succ (.succ (.succ (.succ (.succ (.zero))))))))) ?_
          refine go ?_
          refine callQ (thingCellA hX hlt) ?_
          refine go ?_
          refine call (setCellC (hX.live s' hlt) x) ?_
          rintro _ _ ⟨rfl, rfl⟩
          refine go ?_
          refine st_unone hR ?_
          refine st_toHeap (H := { H with ps := setP H.ps (cellAddr X s') x }) (p := p) (m := m) (ths := ths) hs rfl ?_
          refine WT_ret (rs := [.tmp 8]) Try.func22 rfl rfl ⟨rfl, rfl⟩
        · cases hx : lookT H.ths x with
          | none =>
            have e' : setS H k (s' : Int) x = (1, H) := by simp only [setS, hl, hnat]; rw [if_neg hr, if_pos hf, if_pos ⟨h0, hx⟩]
            have e2 : lookV ths x = none := by simp [lookV, look_none hs hx]
            rw [e']
            refine go ?_
            refine WO_q (q_lookup rfl rfl rfl (by first | exact .head _ | exact .tail _ (.head _) | exact .tail _ (.tail _ (.head _)) | exact .tail _ (.tail _ (.tail _ (.head _))))) rfl rfl rfl ?_
            rw [e2]
            refine go ?_
            refine st_unone hR ?_
            refine st_toHeap (H := H) (p := p) (m := m) (ths := ths) hs rfl ?_
            refine WT_ret (rs := [.tmp 8]) Try.func22 rfl rfl ⟨rfl, rfl⟩
          | some Y =>
            obtain ⟨t2, hk2⟩ := look_some hs hx
            have e' : setS H k (s' : Int) x = (0, { H with ps := setP H.ps (cellAddr X s') x }) := by simp only [setS, hl, hnat]; rw [if_neg hr, if_pos hf, if_neg (by simp [hx])]
            have e2 : lookV ths x = some (.pointer (some ⟨t2, 0, none⟩)) := by simp [lookV, hk2]
            rw [e']
            refine go ?_
            refine WO_q (q_lookup rfl rfl rfl (by first | exact .head _ | exact .tail _ (.head _) | exact .tail _ (.tail _ (.head _)) | exact .tail _ (.tail _ (.tail _ (.head _))))) rfl rfl rfl ?_
            rw [e2]
            refine go ?_
            refine WT_tail 8 (by kernel_rfl) (.succ (.succ (.succ (.succ (.succ (.succ (.succ (.succ (.zero))))))))) ?_
            refine go ?_
            refine callQ (thingCellA hX hlt) ?_
            refine go ?_
            refine call (setCellC (hX.live s' hlt) x) ?_
            rintro _ _ ⟨rfl, rfl⟩
            refine go ?_
            refine st_unone hR ?_
            refine st_toHeap (H := { H with ps := setP H.ps (cellAddr X s') x }) (p := p) (m := m) (ths := ths) hs rfl ?_
            refine WT_ret (rs := [.tmp 8]) Try.func22 rfl rfl ⟨rfl, rfl⟩
      | false =>
        by_cases h1 : x < -2147483648
        · have e' : setS H k (s' : Int) x = (1, H) := by simp only [setS, hl, hnat]; rw [if_neg hr, if_neg (by simp [hf]), if_pos (.inl h1)]
          rw [e']
          refine go ?_
          refine st_unone hR ?_
          refine st_toHeap (H := H) (p := p) (m := m) (ths := ths) hs rfl ?_
          refine WT_ret (rs := [.tmp 8]) Try.func22 rfl rfl ⟨rfl, rfl⟩
        · by_cases h2 : 2147483647 < x
          · have e' : setS H k (s' : Int) x = (1, H) := by simp only [setS, hl, hnat]; rw [if_neg hr, if_neg (by simp [hf]), if_pos (.inr h2)]
            rw [e']
            refine go ?_
            refine st_unone hR ?_
            refine st_toHeap (H := H) (p := p) (m := m) (ths := ths) hs rfl ?_
            refine WT_ret (rs := [.tmp 8]) Try.func22 rfl rfl ⟨rfl, rfl⟩
          · have e' : setS H k (s' : Int) x = (0, { H with ps := setP H.ps (cellAddr X s') x }) := by simp only [setS, hl, hnat]; rw [if_neg hr, if_neg (by simp [hf]), if_neg (by omega)]
            rw [e']
            refine go ?_
            refine WT_tail 8 (by kernel_rfl) (.succ (.succ (.succ (.succ (.succ (.succ (.succ (.succ (.zero))))))))) ?_
            refine go ?_
            refine callQ (thingCellA hX hlt) ?_
            refine go ?_
            refine call (setCellC (hX.live s' hlt) x) ?_
            rintro _ _ ⟨rfl, rfl⟩
            refine go ?_
            refine st_unone hR ?_
            refine st_toHeap (H := { H with ps := setP H.ps (cellAddr X s') x }) (p := p) (m := m) (ths := ths) hs rfl ?_
            refine WT_ret (rs := [.tmp 8]) Try.func22 rfl rfl ⟨rfl, rfl⟩
end Go.Proofs.Ytkknhcdjdcpfcaa
