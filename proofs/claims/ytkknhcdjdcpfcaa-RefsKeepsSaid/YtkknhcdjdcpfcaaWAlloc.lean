/- Walk of block.Pool.Alloc. -/
import Derived.Test.YtkknhcdjdcpfcaaInst
import Derived.Test.YtkknhcdjdcpfcaaXBlk
namespace Go.Proofs.Ytkknhcdjdcpfcaa
open Go.Sl Go.Iso
set_option linter.all false

section
variable {p b n c : Nat} {ps : List Pg} {sp : List Value}
theorem allocFull (hlen : ps.length = n) (hn : 0 < n ∧ n ≤ 24) (hok : ∀ q ∈ ps, q.Ok) {k : Int} (hk : k = 0 ∨ k = 1 ∨ k = 2)
    (h1 : idx (fun q => partlyB q k) ps = -1) (h2 : idx (fun q => decide (q.cls < 0)) ps = -1) :
    C Try.prog 65 [.pointer (some ⟨p, 0, none⟩), .int .i64 k] (pool2 p b n c ps sp)
      (fun v L' => v = .tuple [.int .i64 0, .int .i64 14].toArray ∧ L' = pool2 p b n c ps sp) := by
  have hk' : 0 ≤ k ∧ k < 3 := by rcases hk with h | h | h <;> subst h <;> decide
  refine C_enter2 Try.func65 rfl rfl rfl fun β F => ?_
  refine WT_seq (WT_region ?_)
  refine WO_box rfl rfl rfl rfl rfl rfl fun bc => ?_
  refine go ?_
  refine WO_call rfl rfl (poolClass hn.1 hk') (.cons (.there .here) (.cons (.there .here) .nil)) rfl rfl rfl ?_
  rintro _ _ ⟨rfl, rfl⟩
  refine go ?_
  refine WO_call rfl rfl (indexFuncPages (sp := sp) (f := fun q => partlyB q k) hlen (by omega) hok (fun q hq => alloc1 (hok q hq) (bc := bc) hk)) (M := [cel p [.slice (some ⟨b, 0, none⟩) n c] 128]) (.cons (.there (.there .here)) (.cons (.there .here) .nil)) rfl rfl rfl ?_
  rintro _ _ ⟨rfl, rfl⟩
  rw [h1]
  refine go ?_
  refine WO_call rfl rfl (indexFuncPages (caps := []) (Lc := []) (sp := sp) (f := fun q => decide (q.cls < 0)) hlen (by omega) hok (fun q hq => alloc2 (hok q hq))) (M := [cel bc [.int .i64 k] 3, cel p [.slice (some ⟨b, 0, none⟩) n c] 128]) (.cons (.there .here) .nil) rfl rfl rfl ?_
  rintro _ _ ⟨rfl, rfl⟩
  rw [h2]
  refine go ?_
  refine st_drop (.there .here) ?_
  refine st_perm (M := pool2 p b n c ps sp) (.swap _ _ _) ?_
  refine WT_ret (rs := [.tmp 4, .tmp 5]) Try.func65 rfl rfl ⟨rfl, rfl⟩

theorem zeroCells_int (m : Nat) : (Builtin.zeroCells (Value.int .i64 0).cells m).toList = List.replicate m (.int .i64 0) := by
  apply List.ext_getElem
  · simp [Builtin.zeroCells, Value.cells]
  · intro i h1 h2
    simp [Builtin.zeroCells, Value.cells, Nat.mod_one]
theorem partsN_mul {k : Int} (hk : k = 0 ∨ k = 1 ∨ k = 2) : partsN k * sizeN k = 16 := by rcases hk with h | h | h <;> subst h <;> decide
set_option maxHeartbeats 2000000 in
theorem allocOk {ps1 : List Pg} (hlen1' : ps1.length = n) (hn : 0 < n ∧ n ≤ 24) (hok1' : ∀ q ∈ ps1, q.Ok) {k : Int} (hk : k = 0 ∨ k = 1 ∨ k = 2) {i j : Nat} {q : Pg}
    (h1 : (idx (fun q => partlyB q k) ps1 = (i : Int) ∧ ps1[i]? = some q ∧ q.cls = k ∧ ps = ps1) ∨ (idx (fun q => partlyB q k) ps1 = -1 ∧ idx (fun q => decide (q.cls < 0)) ps1 = (i : Int) ∧ ∃ q', ps1[i]? = some q' ∧ q = { q' with cls := k } ∧ ps = ps1.set i q)) (hj : idx (fun u => false == u) (q.used.take (partsN k)) = (j : Int)) (hj' : j < partsN k) :
    C Try.prog 65 [.pointer (some ⟨p, 0, none⟩), .int .i64 k] (pool2 p b n c ps1 sp)
      (fun v L' => v = .tuple [.int .i64 ((i * 16 + j * sizeN k : Nat) : Int), .int .i64 0].toArray ∧ L' = pool2 p b n c (ps.set i (takeBlock q k j)) sp) := by
  have hlen : ps.length = n := by rcases h1 with ⟨_, _, _, rfl⟩ | ⟨_, _, _, _, _, rfl⟩ <;> simp [hlen1']
  have hok : ∀ q ∈ ps, q.Ok := by
    rcases h1 with ⟨_, _, _, rfl⟩ | ⟨_, _, q', hq', rfl, rfl⟩
    · exact hok1'
    · intro x hx
      rcases List.mem_or_eq_of_mem_set hx with h | rfl
      · exact hok1' _ h
      · have := hok1' q' (List.mem_of_getElem? hq')
        exact ⟨this.used, this.cells, .inr hk⟩
  have hq : ps[i]? = some q := by
    rcases h1 with ⟨_, h, _, rfl⟩ | ⟨_, _, q', hq', _, rfl⟩
    · exact h
    · exact List.getElem?_set_self (List.getElem?_eq_some_iff.1 hq').1
  have hc : q.cls = k := by rcases h1 with ⟨_, _, h, _⟩ | ⟨_, _, q', _, rfl, _⟩ <;> first | exact h | rfl
  have hk' : 0 ≤ k ∧ k < 3 := by rcases hk with h | h | h <;> subst h <;> decide
  have hi : i < n := by rw [← hlen]; exact (List.getElem?_eq_some_iff.1 hq).1
  have hqok := hok q (List.mem_of_getElem? hq)
  have hat : At (encPgs ps ++ sp) (0 + i * 25) q := by rw [Nat.zero_add]; exact encPgs_at hok hq sp
  have hpp := partsN_mul hk
  have hp8 : partsN k ≤ 8 := by rcases hk with h | h | h <;> rw [h] <;> decide
  have hb : (j + 1) * sizeN k ≤ 16 := by rw [← hpp]; exact Nat.mul_le_mul_right _ hj'
  have hsz : 0 < sizeN k := sizeN_pos
  have hjs : (j + 1) * sizeN k = j * sizeN k + sizeN k := Nat.succ_mul _ _
  have hl := encPgs_length hok
  -- the block is marked
  let q1 : Pg := { q with used := q.used.set j true }
  have hset1 : spl (encPgs ps ++ sp) (0 + i * 25 + 1 + j * 1) [.bool true] = encPgs (ps.set i q1) ++ sp := by
    rw [spl_left (by simp only [List.length_singleton]; omega), Nat.zero_add, Nat.mul_one, Nat.add_assoc]
    rw [spl_encPgs hok hq (q' := q1) (by simp only [List.length_singleton]; omega) (by simpa [spl] using set_used hqok (by omega) true)]
  have hq1ok : q1.Ok := ⟨by simp [q1, hqok.used], hqok.cells, hqok.cls⟩
  have hok1 : ∀ q' ∈ ps.set i q1, q'.Ok := fun q' h => by
    rcases List.mem_or_eq_of_mem_set h with h | rfl
    · exact hok _ h
    · exact hq1ok
  have hlen1 := encPgs_length hok1
  have hset2 : spl (encPgs (ps.set i q1) ++ sp) (0 + i * 25 + 9 + j * sizeN k * 1) (List.replicate (sizeN k) (.int .i64 0)) = encPgs (ps.set i (takeBlock q k j)) ++ sp := by
    rw [spl_left (by simp at hlen1 ⊢; omega), Nat.zero_add, Nat.mul_one, Nat.add_assoc]
    rw [spl_encPgs hok1 (i := i) (q := q1) (q' := takeBlock q k j) (List.getElem?_set_self (by omega)) (by simp only [List.length_replicate]; omega) (by
      rw [spl_cells hq1ok (by omega)]
      simp [takeBlock, q1, hc])]
    simp
  refine C_enter2 Try.func65 rfl rfl rfl fun β F => ?_
  refine WT_seq (WT_region ?_)
  refine WO_box rfl rfl rfl rfl rfl rfl fun bc => ?_
  refine go ?_
  refine WO_call rfl rfl (poolClass hn.1 hk') (.cons (.there .here) (.cons (.there .here) .nil)) rfl rfl rfl ?_
  rintro _ _ ⟨rfl, rfl⟩
  refine go ?_
  refine WO_call rfl rfl (indexFuncPages (sp := sp) (f := fun q => partlyB q k) hlen1' (by omega) hok1' (fun q hq => alloc1 (hok1' q hq) (bc := bc) hk)) (M := [cel p [.slice (some ⟨b, 0, none⟩) n c] 128]) (.cons (.there (.there .here)) (.cons (.there .here) .nil)) rfl rfl rfl ?_
  rintro _ _ ⟨rfl, rfl⟩
  rcases h1 with ⟨h1, _, _, rfl⟩ | ⟨h1, h2, q', hq', hqq, hps⟩
  focus
    rw [h1]
    refine go ?_
    refine pick (As := [cel b (encPgs ps ++ sp) 132, cel bc [.int .i64 k] 3, cel p [.slice (some ⟨b, 0, none⟩) n c] 128]) ?_
  rotate_left
  focus
    have hi1 : i < ps1.length := (List.getElem?_eq_some_iff.1 hq').1
    have hl1 := encPgs_length hok1'
    have hset0 : spl (encPgs ps1 ++ sp) (0 + i * 25 + 0) [.int .i64 k] = encPgs ps ++ sp := by
      rw [spl_left (by simp only [List.length_singleton]; omega), Nat.zero_add]
      rw [spl_encPgs hok1' hq' (q' := q) (by simp) (by rw [hqq]; simpa [spl] using set_cls q' k), hps]
    rw [h1]
    refine go ?_
    refine WO_call rfl rfl (indexFuncPages (caps := []) (Lc := []) (sp := sp) (f := fun q => decide (q.cls < 0)) hlen1' (by omega) hok1' (fun q hq => alloc2 (hok1' q hq))) (M := [cel bc [.int .i64 k] 3, cel p [.slice (some ⟨b, 0, none⟩) n c] 128]) (.cons (.there .here) .nil) rfl rfl rfl ?_
    rintro _ _ ⟨rfl, rfl⟩
    rw [h2]
    refine go ?_
    refine WT_tail 8 (by kernel_rfl) (.succ (.succ (.succ (.succ (.succ (.succ (.succ (.succ (.zero))))))))) ?_
    refine go ?_
    refine WO_storeS (vs := [.int .i64 k]) rfl rfl rfl rfl (by simp [Value.oneCell']) (by simp; omega) hset0 .here rfl rfl ?_
    refine go ?_
    refine pick (As := [cel b (encPgs ps ++ sp) 132, cel bc [.int .i64 k] 3, cel p [.slice (some ⟨b, 0, none⟩) n c] 128]) ?_
  all_goals
    refine go ?_
    refine WO_call rfl rfl (pageFirst hat hqok (by rw [hc]; exact hk) false) (.cons .here .nil) rfl rfl rfl ?_
    rintro _ _ ⟨rfl, rfl⟩
    rw [hc, hj]
    refine go ?_
    refine WO_storeS (vs := [.bool true]) rfl rfl rfl rfl (by simp [Value.oneCell']) (by simp; omega) hset1 .here rfl rfl ?_
    refine go ?_
    refine WT_tail 13 (by kernel_rfl) (.succ (.succ (.succ (.succ (.succ (.succ (.succ (.succ (.succ (.succ (.succ (.succ (.succ (.zero)))))))))))))) ?_
    refine go ?_
    refine WQ_q (q_call rfl rfl (size_any hk) .nil) rfl rfl rfl ?_
    refine go ?_
    refine WQ_q (q_call rfl rfl (size_any hk) .nil) rfl rfl rfl ?_
    refine go ?_
    have hm : (j + 1) * sizeN k - j * sizeN k = sizeN k := by omega
    rw [hm]
    have hz := zeroCells_int (sizeN k)
    refine WO_clear (l' := encPgs (ps.set i (takeBlock q k j)) ++ sp) rfl rfl hsz (by rw [hz]; intro v hv; rw [List.eq_of_mem_replicate hv]; rfl) (by rw [hz, List.length_replicate, List.length_append, hlen1, List.length_set]; omega) (by rw [hz]; exact hset2) .here rfl rfl ?_
    refine go ?_
    refine call (size_any hk) ?_
    rintro _ _ ⟨rfl, rfl⟩
    refine go ?_
    refine pick (As := pool2 p b n c (ps.set i (takeBlock q k j)) sp) ?_
    refine WT_ret (rs := [.tmp 4, .tmp 5]) Try.func65 rfl rfl ⟨?_, rfl⟩
    simp [resV]
end
end Go.Proofs.Ytkknhcdjdcpfcaa
