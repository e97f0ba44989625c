/- Walks of package isochronref10: Copy, New. -/
import Derived.Test.YtkknhcdjdcpfcaaInst
import Derived.Test.YtkknhcdjdcpfcaaWR10b
namespace Go.Sl
section
variable {P : Program} {β : Bs} {F : SP} {L M : List SP} {n : Nat} {ops : Array Oper} {rest : List Oper} {E : Env} {K : Env → World → Prop} {o : Oper}
/-- What a slice holds is appended to nothing. -/
theorem WO_appendNil {ts e T : TypeId} {y : Operand} {d b m c : Nat} {z : Value} {i : TypeInfo} {l news : List Value} {fr : Nat × Nat}
    (ho : o.op = .call { callee := .builtin .append, args := #[.const (.slice none 0 0), y], argTypes := #[ts, ts] }) [Und P ts (.slice e)] [hsz : Siz P e 1] [ti : TI P e i] [hz : Zer P e z]
    (hy : ev E y = some (.slice (some ⟨b, 0, none⟩) m c)) (hb : blk b (.cells l.toArray T fr) ∈ L) (hl : (l.drop 0).take news.length = news) (hm : news.length = m) (h1 : ∀ v ∈ news, v.oneCell' = true) (hroom : news.length ≤ 1073741824) (hby : i.bytes ≤ 1024) (hz1 : z.cells.size = 1)
    (hg : wantedE ops E o = some true) (hd : o.dst = some d) (hn : Nat.blt d n = true)
    (k : ∀ v', St β F (ownS e 1 v' news :: L) (WO P n ops rest ((d, v') :: E) K)) : St β F L (WO P n ops (o :: rest) E K) := by
  refine st_fold (A := ownS e 1 (.slice none 0 0) []) .nil (fun h _ => own_nil h) ?_
  refine WO_append (l := []) (news := news) (m := m) ho rfl hy .here (fun h s => .inr ⟨b, 0, c, l, T, fr, rfl, sep_get hb s, hl⟩) (by omega) h1 hz1 (by decide) (by simpa using hroom) hby hg hd hn k
end
end Go.Sl
namespace Go.Proofs.Ytkknhcdjdcpfcaa
open Go.Sl Go.Iso
set_option linter.all false
theorem one_map {α : Type} {f : α → Value} (hf : ∀ x, (f x).oneCell' = true) {l : List α} : ∀ v ∈ l.map f, v.oneCell' = true := by
  intro v hv
  obtain ⟨x, _, rfl⟩ := List.mem_map.1 hv
  exact hf x
theorem take_map {α : Type} {f : α → Value} {l : List α} (sp : List Value) : ((l.map f ++ sp).drop 0).take (l.map f).length = l.map f := by simp
theorem take_map' {α : Type} {f : α → Value} {l : List α} : ((l.map f).drop 0).take (l.map f).length = l.map f := by rw [List.drop_zero]; exact List.take_of_length_le (Nat.le_refl _)
theorem make1 {z : Value} (hz : z.cells = #[z]) (N : Nat) : (List.range (N * 1)).map (fun i => z.cells[i % z.cells.size]!) = List.replicate N z := by
  rw [List.eq_replicate_iff]
  refine ⟨by simp, fun b hb => ?_⟩
  obtain ⟨i, _, rfl⟩ := List.mem_map.1 hb
  rw [hz]; simp [Nat.mod_one]
section
variable {p bk ck bc bl n : Nat} {K : List Int} {sp : List Value} {cs : List Int} {Lv : List Bool}
set_option maxHeartbeats 1000000 in
theorem r10Copy (ok : RpOk n K cs Lv) :
    C Try.prog 66 [.pointer (some ⟨p, 0, none⟩)] (rp4 p bk ck bc bl n K sp cs Lv) (fun v L' => L' = rp4 p bk ck bc bl n K sp cs Lv) := by
  have hn := ok.le
  have hk := ok.kl
  have hc := ok.cl
  have hl := ok.ll
  refine C_enter1 Try.func66 rfl rfl rfl fun β F => ?_
  refine go ?_
  refine WT_any ?_
  refine WA_pure 0 rfl (fun _ _ => qq) rfl (by kernel_rfl) rfl rfl rfl ?_
  refine WA_pure 1 rfl (fun _ _ => qq) rfl (by kernel_rfl) rfl rfl rfl ?_
  refine WA_pure 2 rfl (fun _ _ => qq) rfl (by kernel_rfl) rfl rfl rfl ?_
  refine WA_pure 5 rfl (fun _ _ => qq) rfl (by kernel_rfl) rfl rfl rfl ?_
  refine WA_pure 6 rfl (fun _ _ => qq) rfl (by kernel_rfl) rfl rfl rfl ?_
  refine WA_pure 7 rfl (fun _ _ => qq) rfl (by kernel_rfl) rfl rfl rfl ?_
  refine WA_pure 10 rfl (fun _ _ => qq) rfl (by kernel_rfl) rfl rfl rfl ?_
  refine WA_pure 11 rfl (fun _ _ => qq) rfl (by kernel_rfl) rfl rfl rfl ?_
  refine WA_pure 12 rfl (fun _ _ => qq) rfl (by kernel_rfl) rfl rfl rfl ?_
  refine WA_look 3 [12, 17] [8, 13] rfl qq rfl rfl (by kernel_rfl) ?_ rfl rfl rfl ?_
  · refine .cons rfl (.of_WO rfl rfl ?_) (.cons rfl (.of_WO rfl rfl ?_) .nil)
    · exact WO_q qq rfl rfl rfl (WO_nil fun w h => h)
    · exact WO_q qq rfl rfl rfl (WO_nil fun w h => h)
  refine WA_look 8 [8, 17] [4, 13] rfl qq rfl rfl (by kernel_rfl) ?_ rfl rfl rfl ?_
  · refine .cons rfl (.of_WO rfl rfl ?_) (.cons rfl (.of_WO rfl rfl ?_) .nil)
    · refine WO_appendNil (b := bk) (news := K.map encI) rfl rfl (.tail _ (.head _)) (take_map sp) (by simpa using hk) (one_map fun _ => rfl) (by rw [List.length_map]; omega) (by decide) rfl rfl rfl rfl fun v' => ?_
      refine WO_nil ?_
      exact st_drop .here fun w h => h
    · exact WO_q qq rfl rfl rfl (WO_nil fun w h => h)
  refine WA_look 13 [8, 13] [4, 9] rfl qq rfl rfl (by kernel_rfl) ?_ rfl rfl rfl ?_
  · refine .cons rfl (.of_WO rfl rfl ?_) (.cons rfl (.of_WO rfl rfl ?_) .nil)
    · refine WO_appendNil (b := bk) (news := K.map encI) rfl rfl (.tail _ (.head _)) (take_map sp) (by simpa using hk) (one_map fun _ => rfl) (by rw [List.length_map]; omega) (by decide) rfl rfl rfl rfl fun v' => ?_
      refine WO_nil ?_
      exact st_drop .here fun w h => h
    · refine WO_appendNil (b := bc) (news := cs.map encI) rfl rfl (.tail _ (.tail _ (.head _))) take_map' (by simpa using hc) (one_map fun _ => rfl) (by rw [List.length_map]; omega) (by decide) rfl rfl rfl rfl fun v' => ?_
      refine WO_nil ?_
      exact st_drop .here fun w h => h
  refine WA_one 4 (by kernel_rfl) rfl ?_
  refine WO_appendNil (b := bk) (news := K.map encI) rfl rfl (.tail _ (.head _)) (take_map sp) (by simpa using hk) (one_map fun _ => rfl) (by rw [List.length_map]; omega) (by decide) rfl rfl rfl rfl fun v1 => ?_
  refine WO_nil ?_
  refine st_ownV .here fun q1 m1 c1 hv1 => ?_
  subst hv1
  refine st_drop .here ?_
  refine WA_one 9 (by kernel_rfl) rfl ?_
  refine WO_appendNil (b := bc) (news := cs.map encI) rfl rfl (.tail _ (.tail _ (.head _))) take_map' (by simpa using hc) (one_map fun _ => rfl) (by rw [List.length_map]; omega) (by decide) rfl rfl rfl rfl fun v2 => ?_
  refine WO_nil ?_
  refine st_ownV .here fun q2 m2 c2 hv2 => ?_
  subst hv2
  refine st_drop .here ?_
  refine WA_seq 14 rfl rfl (by kernel_rfl) ?_
  refine WO_appendNil (b := bl) (news := Lv.map encBo) rfl rfl (.tail _ (.tail _ (.tail _ (.head _)))) take_map' (by simpa using hl) (one_map fun _ => rfl) (by rw [List.length_map]; omega) (by decide) rfl rfl rfl rfl fun v3 => ?_
  refine st_ownV .here fun q3 m3 c3 hv3 => ?_
  subst hv3
  refine st_drop .here ?_
  refine go ?_
  refine WO_box rfl rfl rfl rfl rfl rfl fun b => ?_
  refine go ?_
  refine st_drop .here ?_
  refine WT_ret (rs := [.tmp 2]) Try.func66 rfl rfl rfl
set_option maxHeartbeats 1000000 in
theorem r10New (h0 : 0 < n ∧ n ≤ 24) : C Try.prog 38 [.int .i64 (n : Int)] []
    (fun v L' => ∃ p bk ck bc bl sp cs, v = .tuple [.pointer (some ⟨p, 0, none⟩), .int .i64 0].toArray ∧ RpOk n (List.replicate n (-1)) cs (List.replicate (16 * n) false) ∧ L' = rp4 p bk ck bc bl n (List.replicate n (-1)) sp cs (List.replicate (16 * n) false)) := by
  obtain ⟨h0, hn⟩ := h0
  refine C_enter1 Try.func38 rfl rfl rfl fun β F => ?_
  refine go ?_
  refine WT_any ?_
  refine WA_pure 0 rfl (fun _ _ => qq) rfl (by kernel_rfl) rfl rfl rfl ?_
  refine WA_pure 1 rfl (fun _ _ => qq) rfl (by kernel_rfl) rfl rfl rfl ?_
  refine WA_pure 3 rfl (fun _ _ => qq) rfl (by kernel_rfl) rfl rfl rfl ?_
  refine WA_pure 4 rfl (fun _ _ => qq) rfl (by kernel_rfl) rfl rfl rfl ?_
  rw [Nat.mul_comm n 16]
  have e1 : (if 16 * n * 1 = 0 then [] else (List.range (16 * n * 1)).map (fun i => (Value.int .i64 0).cells[i % (Value.int .i64 0).cells.size]!)) = (List.replicate (16 * n) 0).map encI := by
    rw [if_neg (by omega), make1 rfl]; simp
  have e2 : (if 16 * n * 1 = 0 then [] else (List.range (16 * n * 1)).map (fun i => (Value.bool false).cells[i % (Value.bool false).cells.size]!)) = (List.replicate (16 * n) false).map encBo := by
    rw [if_neg (by omega), make1 rfl]; simp
  apply join2
  · intro z
    refine WA_two 2 5 (by kernel_rfl) rfl rfl ?_ ?_
    · refine WO_makeSlice (l := (List.replicate (16 * n) 0).map encI) rfl rfl rfl (Nat.le_refl _) e1 (by omega) (by decide) rfl rfl rfl fun bc => ?_
      refine WO_nil ?_
      refine WA_one 5 (by kernel_rfl) rfl ?_
      refine WO_makeSlice (l := (List.replicate (16 * n) false).map encBo) rfl rfl rfl (Nat.le_refl _) e2 (by omega) (by decide) rfl rfl rfl fun bl => ?_
      refine WO_nil ?_
      refine WA_seq 6 rfl rfl (by kernel_rfl) ?_
      refine WO_keep [14, 17, 2, 3, 0] rfl ?_
      exact z bc bl
    · refine WO_makeSlice (l := (List.replicate (16 * n) false).map encBo) rfl rfl rfl (Nat.le_refl _) e2 (by omega) (by decide) rfl rfl rfl fun bl => ?_
      refine WO_nil ?_
      refine WA_one 2 (by kernel_rfl) rfl ?_
      refine WO_makeSlice (l := (List.replicate (16 * n) 0).map encI) rfl rfl rfl (Nat.le_refl _) e1 (by omega) (by decide) rfl rfl rfl fun bc => ?_
      refine WO_nil ?_
      refine WA_seq 6 rfl rfl (by kernel_rfl) ?_
      refine WO_keep [14, 17, 2, 3, 0] rfl ?_
      exact pickN (z bc bl)
  · intro bc bl
    refine go ?_
    refine WO_box rfl rfl rfl rfl rfl rfl fun p => ?_
    refine go ?_
    refine WT_keep [5, 4, 0] rfl ?_
    refine st_fold (A := ownS 3 1 (.slice none 0 0) ((List.replicate 0 (-1)).map encI)) (As := []) .nil (fun h _ => own_nil h) ?_
    refine pickN (As := [cel p [.slice none 0 0, .slice (some ⟨bc, 0, none⟩) (16 * n) (16 * n), .slice (some ⟨bl, 0, none⟩) (16 * n) (16 * n)] 134, ownS 3 1 (.slice none 0 0) ((List.replicate 0 (-1)).map encI), cel bc ((List.replicate (16 * n) 0).map encI) 3, cel bl ((List.replicate (16 * n) false).map encBo) 4]) ?_
    refine WT_loopX n (fun _ (kv : Value) => True) (fun i _ => [(5, .int .i64 (i : Int)), (4, .pointer (some ⟨p, 0, none⟩)), (0, .int .i64 (n : Int))])
      (fun i kv => [cel p [kv, .slice (some ⟨bc, 0, none⟩) (16 * n) (16 * n), .slice (some ⟨bl, 0, none⟩) (16 * n) (16 * n)] 134, ownS 3 1 kv ((List.replicate i (-1)).map encI), cel bc ((List.replicate (16 * n) 0).map encI) 3, cel bl ((List.replicate (16 * n) false).map encBo) 4]) ?_ 0 (.slice none 0 0) (Nat.zero_le _) trivial
    intro i kv hi _ ih
    by_cases hlt : i < n
    · refine st_ownV (T := 3) (sz := 1) (s := kv) (l := (List.replicate i (-1)).map encI) remA fun pv nv cv hv => ?_
      subst hv
      refine go ?_
      refine WO_append1 (s := .slice pv nv cv) (l := (List.replicate i (-1)).map encI) (u := encI (-1)) rfl rfl rfl rfl rfl rfl rfl rfl (fun _ => rfl) (by simp; omega) (by decide) rfl (fun _ => rfl) rfl rfl fun v' b' => ?_
      refine st_ownV .here fun pv' nv' cv' hv' => ?_
      subst hv'
      have eq1 : (List.replicate i (-1)).map encI ++ [encI (-1)] = (List.replicate (i + 1) (-1)).map encI := by rw [List.replicate_succ', List.map_append]; rfl
      rw [eq1]
      refine go ?_
      refine WO_store rfl rfl rfl rfl rfl updA .zero rfl rfl ?_
      refine go ?_
      refine WT_keep [5, 4, 0] rfl ?_
      exact pickN (ih (.slice pv' nv' cv') hlt trivial)
    · have hin : i = n := by omega
      subst hin
      refine st_own (T := 3) (sz := 1) (s := kv) (l := (List.replicate i (-1)).map encI) remA (fun hs h0 => ?_) (fun bk k ck sp hv hlb hsp hc => ?_)
      · have := congrArg List.length h0; simp at this; omega
      · have hk : k = i := by simpa using hlb.symm
        subst hv hk
        refine go ?_
        refine pickN (As := rp4 p bk ck bc bl k (List.replicate k (-1)) sp (List.replicate (16 * k) 0) (List.replicate (16 * k) false)) ?_
        refine WT_ret (rs := [.tmp 2, .tmp 3]) Try.func38 rfl rfl ⟨p, bk, ck, bc, bl, sp, List.replicate (16 * k) 0, rfl, ⟨hn, by simp, by simp, by simp, fun k hk => .inl (List.eq_of_mem_replicate hk)⟩, rfl⟩
end
end Go.Proofs.Ytkknhcdjdcpfcaa
