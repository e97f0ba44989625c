/- Walks of package isochronref11. -/
import Derived.Test.YtkknhcdjdcpfcaaInst
import Derived.Test.YtkknhcdjdcpfcaaWR11c
namespace Go.Sl
section
variable {P : Program} {f : FuncId} {β : Bs} {F : SP} {L M : List SP} {n : Nat} {R : Value → List SP → Prop} {k : List Item} {E : Env}
theorem WT_loop1 {c : Code} (h : St β F L (WT P f β F n R (.code c :: .inLoop c :: k) E)) : St β F L (WT P f β F n R (.code (.loop c) :: k) E) := WT_step (fun _ _ _ _ _ => .one step_loop) h
theorem WT_again {c : Code} (h : St β F L (WT P f β F n R (.code c :: .inLoop c :: k) E)) : St β F L (WT P f β F n R (.inLoop c :: k) E) := WT_step (fun _ _ _ _ _ => .one step_inLoop) h
end
end Go.Sl
namespace Go.Proofs.Ytkknhcdjdcpfcaa
open Go.Sl Go.Iso
set_option linter.all false

def classOf (n : Nat) : Nat := if n ≤ 1 then 0 else if n ≤ 3 then 1 else 2
theorem classOf_le (n : Nat) : classOf n ≤ 2 := by unfold classOf; split <;> first | omega | (split <;> omega)
theorem r11Needs {n : Nat} : C Try.prog 67 [.int .i64 (n : Int), .bool false] [] (fun v L' => ∃ b, v = .slice (some ⟨b, 0, none⟩) 1 1 ∧ L' = [cel b [encN (classOf n)] 3]) := by
  refine C_enter2 Try.func67 rfl rfl rfl fun β F => ?_
  by_cases h1 : n ≤ 1
  · refine go ?_
    refine WO_build1 rfl rfl rfl rfl rfl rfl rfl fun b => ?_
    refine go ?_
    refine WT_ret (rs := [.tmp 4]) Try.func67 rfl rfl ⟨b, rfl, by rw [classOf, if_pos h1]; rfl⟩
  · by_cases h3 : n ≤ 3
    · refine go ?_
      refine WO_build1 rfl rfl rfl rfl rfl rfl rfl fun b => ?_
      refine go ?_
      refine WT_ret (rs := [.tmp 4]) Try.func67 rfl rfl ⟨b, rfl, by rw [classOf, if_neg h1, if_pos h3]; rfl⟩
    · refine go ?_
      refine WO_build1 rfl rfl rfl rfl rfl rfl rfl fun b => ?_
      refine go ?_
      refine WT_ret (rs := [.tmp 4]) Try.func67 rfl rfl ⟨b, rfl, by rw [classOf, if_neg h1, if_neg h3]; rfl⟩
/-- The first handle that is not in use. -/
structure FreeAt (os : List RO) (m : Nat) : Prop where
  pos : 1 ≤ m
  lt : m < os.length
  used : ∀ i, 1 ≤ i → i < m → inR os (i : Int) = true
  free : inR os (m : Int) = false
set_option maxHeartbeats 4000000 in
theorem r11Made {h : Nat} {R : RS} {m : Nat} {o : RO} {rp sp2 : Option Addr} {rc sc a : Nat} {K' : List Int} {Lv' : List Bool} (hf : FreeAt R.os m) (hb : o.blocks = []) (hlen : o.slots.length ≤ 7) (hrl : o.refs.length = o.slots.length)
    (hA : allocR R.n R.K R.Lv (classOf o.slots.length) = some (a, K', Lv')) (ha : a ≤ 400) :
    C Try.prog 42 [.pointer (some ⟨h, 0, none⟩), .agg [.int .i64 o.kind, .int .i64 o.cls, .slice rp o.refs.length rc, .slice sp2 o.slots.length sc, .slice none 0 0].toArray, .bool false]
      [rheapA h R, ownS 4 1 (.slice rp o.refs.length rc) (o.refs.map encBo), ownS 3 1 (.slice sp2 o.slots.length sc) (o.slots.map encI)]
      (fun v L' => v = .tuple [.int .i64 (m : Int), .int .i64 0].toArray ∧ L' = [rheapA h { R with K := K', Lv := Lv', os := R.os.set m { o with blocks := [a] } }]) := by
  have hm1 := hf.pos
  have hml := hf.lt
  refine C_enter3 Try.func42 rfl rfl rfl fun β F => ?_
  refine st_rheap .here fun W ok => ?_
  have hl := ok.rl
  have hnn := ok.len
  have ho := ok.os
  refine go ?_
  refine WO_box rfl rfl rfl rfl rfl rfl fun ob => ?_
  refine go ?_
  refine WT_keep [8, 4, 0, 2] rfl ?_
  refine WT_loopN m (fun i => 1 ≤ i) (fun i => [(8, .int .i64 (i : Int)), (4, .pointer (some ⟨ob, 0, none⟩)), (0, .pointer (some ⟨h, 0, none⟩)), (2, .bool false)]) (fun _ => _) ?_ 1 hm1 (Nat.le_refl _)
  intro i hi hi1 ih
  have hil : i < R.os.length := by omega
  refine go ?_
  refine call (r11In hl (i : Int)) ?_
  rintro _ _ ⟨rfl, rfl⟩
  rw [ho]
  by_cases hlt : i < m
  · rw [hf.used i hi1 hlt]
    refine go ?_
    refine WT_keep [8, 4, 0, 2] rfl ?_
    exact pickN (ih hlt (by omega))
  · have : i = m := by omega
    subst this
    rw [hf.free]
    refine go ?_
    refine call (r10Copy (p := W.p) (bk := W.bk) (ck := W.ck) (bc := W.bc) (bl := W.bl) (sp := W.sp) ok.pool) ?_
    rintro vc _ rfl
    refine go ?_
    refine call (r11Needs (n := o.slots.length)) ?_
    rintro _ _ ⟨bn, rfl, rfl⟩
    refine go ?_
    have h01 : (0 : Nat) < 1 := Nat.one_pos
    refine WT_loop1 ?_
    refine go ?_
    refine WT_any ?_
    refine WA_pure 0 rfl (fun _ _ => qq) rfl (by kernel_rfl) rfl rfl rfl ?_
    refine WA_pure 1 rfl (fun _ _ => qq) rfl (by kernel_rfl) rfl rfl rfl ?_
    refine WA_pure 2 rfl (fun _ _ => qq) rfl (by kernel_rfl) rfl rfl rfl ?_
    refine WA_pure 4 rfl (fun _ _ => qq) rfl (by kernel_rfl) rfl rfl rfl ?_
    refine WA_pure 5 rfl (fun _ _ => qq) rfl (by kernel_rfl) rfl rfl rfl ?_
    refine WA_pure 6 rfl (fun _ _ => qq) rfl (by kernel_rfl) rfl rfl rfl ?_
    refine WA_look 3 [58] [7] rfl qq rfl rfl (by kernel_rfl) (.cons rfl (.of_WO rfl rfl (WO_q qq rfl rfl rfl (WO_nil fun w h => h))) .nil) rfl rfl rfl ?_
    refine WA_look 7 [] [] rfl qq rfl rfl (by kernel_rfl) .nil rfl rfl rfl ?_
    refine WA_one 8 (by kernel_rfl) rfl ?_
    refine call (r10Alloc (p := W.p) (bk := W.bk) (ck := W.ck) (bc := W.bc) (bl := W.bl) (sp := W.sp) ok.pool (classOf_le o.slots.length)) ?_
    intro v' L' hR
    rw [hA] at hR
    obtain ⟨cs', ok', rfl, rfl⟩ := hR
    refine WO_nil ?_
    refine WA_pure 9 rfl (fun _ _ => qq) rfl (by kernel_rfl) rfl rfl rfl ?_
    refine WA_pure 10 rfl (fun _ _ => qq) rfl (by kernel_rfl) rfl rfl rfl ?_
    refine WA_pure 11 rfl (fun _ _ => qq) rfl (by kernel_rfl) rfl rfl rfl ?_
    refine WA_seq 12 rfl rfl (by kernel_rfl) ?_
    refine go ?_
    refine st_fold (A := ownS 3 1 (.slice none 0 0) ([] : List Value)) (As := []) .nil (fun h _ => own_nil h) ?_
    refine WO_append1 (s := .slice none 0 0) (l := []) (u := encN a) rfl rfl rfl rfl rfl rfl rfl rfl (fun _ => rfl) (by decide) (by decide) rfl (fun _ => rfl) rfl rfl fun v2 b2 => ?_
    refine st_ownL (T := 3) (sz := 1) (s := v2) (l := [] ++ [encN a]) .here fun bp nb bcc hv hlb => ?_
    have hnb : nb = 1 := by simpa using hlb.symm
    subst hv hnb
    refine go ?_
    refine WO_store rfl rfl rfl rfl rfl updA (.succ (.succ (.succ (.succ .zero)))) rfl rfl ?_
    refine go ?_
    refine WT_again ?_
    refine go ?_
    have hat0 : (([.int .i64 o.kind, .int .i64 o.cls, .slice rp o.refs.length rc, .slice sp2 o.slots.length sc, .slice bp 1 bcc] : List Value).drop 0).take 5 = [.int .i64 o.kind, .int .i64 o.cls, .slice rp o.refs.length rc, .slice sp2 o.slots.length sc, .slice bp 1 bcc] := rfl
    obtain ⟨xo, hxo⟩ : ∃ xo, W.rs[i]? = some xo := ⟨W.rs[i]'(by omega), by simp⟩
    have hiw : i < W.rs.length := by omega
    have hx' : (W.rs.set i ⟨{ o with blocks := [a] }, rp, rc, sp2, sc, bp, bcc⟩)[i]? = some ⟨{ o with blocks := [a] }, rp, rc, sp2, sc, bp, bcc⟩ := by
      rw [List.getElem?_set_self hiw]
    have ho' : ROOk { o with blocks := [a] } := ⟨by show 0 < 1; decide, by show 1 ≤ 100; decide, fun b hb => (by have : b = a := by simpa using hb
                                                                                                                 omega), by show o.slots.length ≤ 48; omega, hrl, fun h => absurd h (by show ¬ 1 > 1; decide)⟩
    have eL : (R.os.set i { o with blocks := [a] }).length = R.os.length := List.length_set
    refine pickN (As := cel h [.slice (some ⟨W.bo, 0, none⟩) R.os.length R.os.length, .pointer (some ⟨W.p, 0, none⟩)] 69 :: cel W.bo (encRs W.rs) 73 ::
      cel ob [.int .i64 o.kind, .int .i64 o.cls, .slice rp o.refs.length rc, .slice sp2 o.slots.length sc, .slice bp 1 bcc] 73 :: rsA W.rs ::
      ownS 4 1 (.slice rp o.refs.length rc) (o.refs.map encBo) :: ownS 3 1 (.slice sp2 o.slots.length sc) (o.slots.map encI) :: ownS 3 1 (.slice bp 1 bcc) [encN a] :: rp4 W.p W.bk W.ck W.bc W.bl R.n K' W.sp cs' Lv') ?_
    refine WT_tail 7 (by kernel_rfl) (.succ (.succ (.succ (.succ (.succ (.succ (.succ (.zero)))))))) ?_
    refine go ?_
    refine WO_storeS (b := W.bo) (off := 0 + i * 5) (l := encRs W.rs) (vs := rV ⟨{ o with blocks := [a] }, rp, rc, sp2, sc, bp, bcc⟩) rfl rfl rfl rfl (by intro v hv; simp only [rV, List.mem_cons, List.not_mem_nil, or_false] at hv; rcases hv with rfl | rfl | rfl | rfl | rfl <;> rfl) (by rw [encRs_length]; simp [rV]; omega) (encRs_set hiw) updA rfl rfl ?_
    refine go ?_
    refine st_ro hxo remA fun Q hQ => ?_
    refine st_fold (A := rsA (W.rs.set i ⟨{ o with blocks := [a] }, rp, rc, sp2, sc, bp, bcc⟩)) (As := [ownS 4 1 (.slice rp o.refs.length rc) (o.refs.map encBo), ownS 3 1 (.slice sp2 o.slots.length sc) (o.slots.map encI), ownS 3 1 (.slice bp 1 bcc) [encN a], Q]) (by unfold rO; exact remsA) (fun k s => hQ ⟨{ o with blocks := [a] }, rp, rc, sp2, sc, bp, bcc⟩ k s) ?_
    refine call (r11Lay (h := h) (bo := W.bo) (p := W.p) (nn := R.os.length) (bk := W.bk) (ck := W.ck) (bc := W.bc) (bl := W.bl) (sp := W.sp) ok' hx' hml hnn ho') ?_
    rintro _ _ ⟨cs2, rfl, ok2, rfl⟩
    rw [← eL]
    refine st_toRheap (R := { R with K := K', Lv := Lv', os := R.os.set i { o with blocks := [a] } }) { W with rs := W.rs.set i ⟨{ o with blocks := [a] }, rp, rc, sp2, sc, bp, bcc⟩, cs := cs2 } ⟨by
      show (W.rs.set i _).map (·.o) = R.os.set i _
      rw [List.map_set, ho], ok2, by show (R.os.set i _).length ≤ 1000; rw [List.length_set]; exact hnn⟩ remsA ?_
    refine go ?_
    refine pickN (As := [rheapA h { R with K := K', Lv := Lv', os := R.os.set i { o with blocks := [a] } }]) ?_
    refine WT_ret (rs := [.tmp 6, .tmp 7]) Try.func42 rfl rfl ⟨rfl, rfl⟩
end Go.Proofs.Ytkknhcdjdcpfcaa
namespace Go.Sl
section
variable {P : Program} {β : Bs} {F : SP} {L M : List SP} {n : Nat} {ops : Array Oper} {g : Nat} {listed listed' : Array Bool} {E E' : Env} {K : Env → World → Prop}
theorem WA_norm (l : List Nat) (h : listed = listed') (e : keep E l = E') (k : St β F L (WA P n ops g listed' E' K)) : St β F L (WA P n ops g listed E K) := by
  subst h
  exact fun w hw Q h1 h2 h3 a ha => k w hw Q h1 h2 h3 a (ha.weak (e ▸ keep_lk E l))
end
end Go.Sl
namespace Go.Proofs.Ytkknhcdjdcpfcaa
open Go.Sl Go.Iso
set_option linter.all false

set_option maxHeartbeats 4000000 in
theorem r11NewObject {h : Nat} {R : RS} {m a bu cu : Nat} {k : Int} {us : List Bool} {l : List Value} {T : TypeId} {fr : Nat × Nat} {K' : List Int} {Lv' : List Bool} (hf : FreeAt R.os m) (hk : 0 ≤ k ∧ k < 10) (hus : us.length ≤ 7)
    (hl : (l.drop 0).take (us.map encBo).length = us.map encBo) (hA : allocR R.n R.K R.Lv (classOf us.length) = some (a, K', Lv')) (ha : a ≤ 400) :
    C Try.prog 21 [.pointer (some ⟨h, 0, none⟩), .int .i64 k, .slice (some ⟨bu, 0, none⟩) us.length cu] [rheapA h R, blk bu (.cells l.toArray T fr)]
      (fun v L' => v = .tuple [.int .i64 (m : Int), .int .i64 0].toArray ∧ L' = [rheapA h { R with K := K', Lv := Lv', os := R.os.set m { kind := 2, cls := k, refs := us, slots := List.replicate us.length 0, blocks := [a] } }, blk bu (.cells l.toArray T fr)]) := by
  obtain ⟨hk0, hk1⟩ := hk
  refine C_enter3 Try.func21 rfl rfl rfl fun β F => ?_
  refine st_rheap .here fun W ok => ?_
  refine go ?_
  refine call (r11There (h := h) (bo := W.bo) (p := W.p) (nn := R.os.length) (rs := W.rs)) ?_
  rintro _ _ ⟨rfl, rfl⟩
  refine go ?_
  refine st_toRheap (R := R) W ok remsA ?_
  refine WT_any ?_
  refine WA_pure 0 rfl (fun _ _ => qq) rfl (by kernel_rfl) rfl rfl rfl ?_
  refine WA_pure 1 rfl (fun _ _ => qq) rfl (by kernel_rfl) rfl rfl rfl ?_
  refine WA_pure 3 rfl (fun _ _ => qq) rfl (by kernel_rfl) rfl rfl rfl ?_
  refine WA_pure 5 rfl (fun _ _ => qq) rfl (by kernel_rfl) rfl rfl rfl ?_
  refine WA_pure 6 rfl (fun _ _ => qq) rfl (by kernel_rfl) rfl rfl rfl ?_
  have e1 : (if us.length * 1 = 0 then [] else (List.range (us.length * 1)).map (fun i => (Value.int .i64 0).cells[i % (Value.int .i64 0).cells.size]!)) = (List.replicate us.length 0).map encI := by
    by_cases h0 : us.length * 1 = 0
    · rw [if_pos h0]
      have : us.length = 0 := by omega
      rw [this]; rfl
    · rw [if_neg h0, make1 rfl]; simp
  have one := one_map (f := encBo) (fun _ => rfl) (l := us)
  apply join2
  · intro z
    refine WA_two 2 7 (by kernel_rfl) rfl rfl ?_ ?_
    · refine WO_buildSlice0 rfl rfl rfl rfl fun bz => ?_
      refine WO_nil ?_
      refine st_fold (A := ownS 4 1 (.slice (some ⟨bz, 0, none⟩) 0 0) ([] : List Value)) (As := [cel bz ([] : List Value) 4]) remsA (fun h s => own_mk (l := []) (sp := []) rfl rfl (Nat.le_refl _) h s) ?_
      refine WA_two 4 7 (by kernel_rfl) rfl rfl ?_ ?_
      · refine WO_append (l := []) (news := us.map encBo) (m := us.length) rfl rfl rfl .here (fun h s => .inr ⟨bu, 0, cu, l, T, fr, rfl, sep_get (.tail _ (.head _)) s, hl⟩) (by simp) one rfl (by decide) (by simp; omega) (by decide) rfl rfl rfl fun v' => ?_
        refine WO_nil ?_
        refine WA_one 7 (by kernel_rfl) rfl ?_
        refine WO_makeSlice (l := (List.replicate us.length 0).map encI) rfl rfl rfl (Nat.le_refl _) e1 (by omega) (by decide) rfl rfl rfl fun bm => ?_
        refine WO_nil ?_
        refine WA_norm (listed' := #[true, true, true, true, true, true, true, true, false, false, false, false, false, false]) (E' := [(24, .pointer (some ⟨h, 0, none⟩)), (25, .int .i64 k), (28, v'), (31, .slice (some ⟨bm, 0, none⟩) us.length us.length)]) [24, 25, 28, 31] (by kernel_rfl) rfl ?_
        exact z v' bm
      · refine WO_makeSlice (l := (List.replicate us.length 0).map encI) rfl rfl rfl (Nat.le_refl _) e1 (by omega) (by decide) rfl rfl rfl fun bm => ?_
        refine WO_nil ?_
        refine WA_one 4 (by kernel_rfl) rfl ?_
        refine WO_append (l := []) (news := us.map encBo) (m := us.length) rfl rfl rfl (.there .here) (fun h s => .inr ⟨bu, 0, cu, l, T, fr, rfl, sep_get (.tail _ (.tail _ (.head _))) s, hl⟩) (by simp) one rfl (by decide) (by simp; omega) (by decide) rfl rfl rfl fun v' => ?_
        refine WO_nil ?_
        refine WA_norm (listed' := #[true, true, true, true, true, true, true, true, false, false, false, false, false, false]) (E' := [(24, .pointer (some ⟨h, 0, none⟩)), (25, .int .i64 k), (28, v'), (31, .slice (some ⟨bm, 0, none⟩) us.length us.length)]) [24, 25, 28, 31] (by kernel_rfl) rfl ?_
        exact pickN (z v' bm)
    · refine WO_makeSlice (l := (List.replicate us.length 0).map encI) rfl rfl rfl (Nat.le_refl _) e1 (by omega) (by decide) rfl rfl rfl fun bm => ?_
      refine WO_nil ?_
      refine WA_one 2 (by kernel_rfl) rfl ?_
      refine WO_buildSlice0 rfl rfl rfl rfl fun bz => ?_
      refine WO_nil ?_
      refine st_fold (A := ownS 4 1 (.slice (some ⟨bz, 0, none⟩) 0 0) ([] : List Value)) (As := [cel bz ([] : List Value) 4]) remsA (fun h s => own_mk (l := []) (sp := []) rfl rfl (Nat.le_refl _) h s) ?_
      refine WA_one 4 (by kernel_rfl) rfl ?_
      refine WO_append (l := []) (news := us.map encBo) (m := us.length) rfl rfl rfl .here (fun h s => .inr ⟨bu, 0, cu, l, T, fr, rfl, sep_get (.tail _ (.tail _ (.head _))) s, hl⟩) (by simp) one rfl (by decide) (by simp; omega) (by decide) rfl rfl rfl fun v' => ?_
      refine WO_nil ?_
      refine WA_norm (listed' := #[true, true, true, true, true, true, true, true, false, false, false, false, false, false]) (E' := [(24, .pointer (some ⟨h, 0, none⟩)), (25, .int .i64 k), (28, v'), (31, .slice (some ⟨bm, 0, none⟩) us.length us.length)]) [24, 25, 28, 31] (by kernel_rfl) rfl ?_
      exact pickN (z v' bm)
  · intro v' bm
    refine st_ownL (T := 4) (sz := 1) (s := v') (l := [] ++ us.map encBo) remA fun rp nr rc hv hlb => ?_
    have hnr : nr = us.length := by simpa using hlb.symm
    subst hv hnr
    refine WA_one 8 (by kernel_rfl) rfl ?_
    refine go ?_
    refine WA_one 9 (by kernel_rfl) rfl ?_
    have hsl : (List.replicate us.length (0 : Int)).length = us.length := List.length_replicate
    have hm := r11Made (h := h) (R := R) (m := m) (o := { kind := 2, cls := k, refs := us, slots := List.replicate us.length 0, blocks := [] }) (rp := rp) (sp2 := some ⟨bm, 0, none⟩) (rc := rc) (sc := us.length) (a := a) (K' := K') (Lv' := Lv') hf rfl (by show (List.replicate us.length (0 : Int)).length ≤ 7; rw [hsl]; exact hus) hsl.symm (by show allocR _ _ _ (classOf (List.replicate us.length (0 : Int)).length) = _; rw [hsl]; exact hA) ha
    dsimp only at hm
    rw [hsl] at hm
    refine st_fold (A := ownS 3 1 (.slice (some ⟨bm, 0, none⟩) us.length us.length) ((List.replicate us.length 0).map encI)) (As := [cel bm ((List.replicate us.length 0).map encI) 3]) remsA (fun h s => by
      have := own_mk (T := 3) (b := bm) (k := us.length) (c := us.length) (sz := 1) (l := (List.replicate us.length 0).map encI) (sp := []) (by simp) (by simp) (Nat.le_refl _) h (by simpa using s)
      exact this) ?_
    refine call hm ?_
    rintro _ _ ⟨rfl, rfl⟩
    refine WO_nil ?_
    refine WA_pure 10 rfl (fun _ _ => qq) rfl (by kernel_rfl) rfl rfl rfl ?_
    refine WA_pure 11 rfl (fun _ _ => qq) rfl (by kernel_rfl) rfl rfl rfl ?_
    refine WA_seq 12 rfl rfl (by kernel_rfl) ?_
    refine go ?_
    refine pickN (As := [rheapA h { R with K := K', Lv := Lv', os := R.os.set m { kind := 2, cls := k, refs := us, slots := List.replicate us.length 0, blocks := [a] } }, blk bu (.cells l.toArray T fr)]) ?_
    refine WT_ret (rs := [.tmp 6, .tmp 7]) Try.func21 rfl rfl ⟨rfl, rfl⟩
end Go.Proofs.Ytkknhcdjdcpfcaa
