/- Walks of package isochronref11: lay, Set. -/
import Derived.Test.YtkknhcdjdcpfcaaInst
import Derived.Test.YtkknhcdjdcpfcaaWR11
namespace Go.Proofs.Ytkknhcdjdcpfcaa
open Go.Sl Go.Iso
set_option linter.all false

structure ROOk (o : RO) : Prop where
  pos : 0 < o.blocks.length
  few : o.blocks.length ≤ 100
  bnd : ∀ b ∈ o.blocks, b ≤ 400
  len : o.slots.length ≤ 48
  refs : o.refs.length = o.slots.length
  many : o.blocks.length > 1 → ∀ i, i < o.slots.length → 1 + i / 8 < o.blocks.length
section
variable {h bo p nn : Nat} {rs : List RX} {bk ck bc bl n : Nat} {K : List Int} {sp : List Value} {cs : List Int} {Lv : List Bool}
set_option maxHeartbeats 4000000 in
theorem r11Lay (ok : RpOk n K cs Lv) {m : Nat} {x : RX} (hx : rs[m]? = some x) (hm : m < nn) (hnn : nn ≤ 1000) (ho : ROOk x.o) :
    C Try.prog 48 [.pointer (some ⟨h, 0, none⟩), .int .i64 (m : Int)] (rh2 h bo p nn rs ++ (rsA rs :: rp4 p bk ck bc bl n K sp cs Lv))
      (fun v L' => ∃ cs', v = .tuple #[] ∧ RpOk n K cs' Lv ∧ L' = rh2 h bo p nn rs ++ (rsA rs :: rp4 p bk ck bc bl n K sp cs' Lv)) := by
  obtain ⟨o, rp, rc, sp2, sc, bp, bcc⟩ := x
  dsimp only at ho
  have hlen := ho.len
  have hfew := ho.few
  have hpos := ho.pos
  have hat := encRs_at hx
  dsimp only [rV] at hat
  rw [← Nat.zero_add (m * 5)] at hat
  refine C_enter2 Try.func48 rfl rfl rfl fun β F => ?_
  refine go ?_
  refine WO_alloc (l := [.int .i64 0, .int .i64 0, .slice none 0 0, .slice none 0 0, .slice none 0 0]) rfl rfl rfl rfl rfl fun ob => ?_
  refine go ?_
  refine WO_storeAll (b := ob) (l := [.int .i64 0, .int .i64 0, .slice none 0 0, .slice none 0 0, .slice none 0 0]) (vs := rV ⟨o, rp, rc, sp2, sc, bp, bcc⟩) rfl rfl rfl (by intro v hv; simp only [rV, List.mem_cons, List.not_mem_nil, or_false] at hv; rcases hv with rfl | rfl | rfl | rfl | rfl <;> rfl) rfl updA rfl rfl ?_
  refine st_ro hx remA fun R hR => ?_
  refine st_own (T := 3) (sz := 1) (l := o.blocks.map encN) (s := .slice bp o.blocks.length bcc) remA (fun hs h0 => ?_) (fun bb Nb cb spb hv hlb hspb hcb => ?_)
  · have := congrArg List.length h0; rw [List.length_map, List.length_nil] at this; omega
  cases hv
  have hblk : ∀ i, i < o.blocks.length → (o.blocks.map encN ++ spb)[0 + i * 1]? = some (.int .i64 (o.blocks.getD i 0 : Int)) := by
    intro i hi
    rw [Nat.zero_add, Nat.mul_one, List.getElem?_append_left (by simpa using hi)]
    simp [hi]
  have bd : ∀ i, o.blocks.getD i 0 ≤ 400 := by
    intro i
    rcases Nat.lt_or_ge i o.blocks.length with h | h
    · have := ho.bnd o.blocks[i] (List.getElem_mem h); simp [h]; exact this
    · simp [h]
  have hb0 := hblk 0 hpos
  have bd0 := bd 0
  have hfoldb := own_mk (T := 3) (b := bb) hlb hspb hcb
  refine pickN (As := cel ob [.int .i64 o.kind, .int .i64 o.cls, .slice rp o.refs.length rc, .slice sp2 o.slots.length sc, .slice (some ⟨bb, 0, none⟩) o.blocks.length bcc] 73 ::
    cel h [.slice (some ⟨bo, 0, none⟩) nn nn, .pointer (some ⟨p, 0, none⟩)] 69 :: cel bo (encRs rs) 73 :: cel bb (o.blocks.map encN ++ spb) 3 ::
    ownS 4 1 (.slice rp o.refs.length rc) (o.refs.map encBo) :: ownS 3 1 (.slice sp2 o.slots.length sc) (o.slots.map encI) :: R :: rp4 p bk ck bc bl n K sp cs Lv) ?_
  refine go ?_
  refine WT_tail 9 (by kernel_rfl) (.succ (.succ (.succ (.succ (.succ (.succ (.succ (.succ (.succ (.zero)))))))))) ?_
  refine go ?_
  refine call (r10SetCell ok (o.blocks.getD 0 0 : Int) (m : Int)) ?_
  rintro _ _ ⟨e1, cs1, rfl, ok1, rfl⟩
  refine go ?_
  refine WT_keep [5, 4, 0, 1] rfl ?_
  refine pickN (As := cel ob [.int .i64 o.kind, .int .i64 o.cls, .slice rp o.refs.length rc, .slice sp2 o.slots.length sc, .slice (some ⟨bb, 0, none⟩) o.blocks.length bcc] 73 ::
    cel h [.slice (some ⟨bo, 0, none⟩) nn nn, .pointer (some ⟨p, 0, none⟩)] 69 :: cel bo (encRs rs) 73 :: cel bb (o.blocks.map encN ++ spb) 3 ::
    ownS 4 1 (.slice rp o.refs.length rc) (o.refs.map encBo) :: ownS 3 1 (.slice sp2 o.slots.length sc) (o.slots.map encI) :: R :: rp4 p bk ck bc bl n K sp cs1 Lv) ?_
  refine WT_loopX o.blocks.length (fun i cs' => 1 ≤ i ∧ RpOk n K cs' Lv) (fun i _ => [(5, .int .i64 (i : Int)), (4, .pointer (some ⟨ob, 0, none⟩)), (0, .pointer (some ⟨h, 0, none⟩)), (1, .int .i64 (m : Int))])
    (fun _ cs' => cel ob [.int .i64 o.kind, .int .i64 o.cls, .slice rp o.refs.length rc, .slice sp2 o.slots.length sc, .slice (some ⟨bb, 0, none⟩) o.blocks.length bcc] 73 ::
    cel h [.slice (some ⟨bo, 0, none⟩) nn nn, .pointer (some ⟨p, 0, none⟩)] 69 :: cel bo (encRs rs) 73 :: cel bb (o.blocks.map encN ++ spb) 3 ::
    ownS 4 1 (.slice rp o.refs.length rc) (o.refs.map encBo) :: ownS 3 1 (.slice sp2 o.slots.length sc) (o.slots.map encI) :: R :: rp4 p bk ck bc bl n K sp cs' Lv) ?_ 1 cs1 hpos ⟨Nat.le_refl _, ok1⟩
  clear ok1 cs1 e1
  intro i cs1 hi ⟨hi1, ok1⟩ ih
  by_cases hlt : i < o.blocks.length
  · have hbi := hblk i hlt
    have bdi := bd i
    refine go ?_
    refine WT_tail 15 (by kernel_rfl) (.succ (.succ (.succ (.succ (.succ (.succ (.succ (.succ (.succ (.succ (.succ (.succ (.succ (.succ (.succ (.zero)))))))))))))))) ?_
    refine go ?_
    refine call (r10SetCell ok1 _ _) ?_
    rintro _ _ ⟨e2, cs2, rfl, ok2, rfl⟩
    refine go ?_
    refine WT_keep [5, 4, 0, 1] rfl ?_
    exact pickN (ih cs2 hlt ⟨by omega, ok2⟩)
  · clear ih
    refine go ?_
    refine WT_keep [6, 4, 0, 1] rfl ?_
    refine WT_loopX o.slots.length (fun i cs' => RpOk n K cs' Lv) (fun i _ => [(6, .int .i64 (i : Int)), (4, .pointer (some ⟨ob, 0, none⟩)), (0, .pointer (some ⟨h, 0, none⟩)), (1, .int .i64 (m : Int))])
      (fun _ cs' => cel ob [.int .i64 o.kind, .int .i64 o.cls, .slice rp o.refs.length rc, .slice sp2 o.slots.length sc, .slice (some ⟨bb, 0, none⟩) o.blocks.length bcc] 73 ::
      cel h [.slice (some ⟨bo, 0, none⟩) nn nn, .pointer (some ⟨p, 0, none⟩)] 69 :: cel bo (encRs rs) 73 :: cel bb (o.blocks.map encN ++ spb) 3 ::
      ownS 4 1 (.slice rp o.refs.length rc) (o.refs.map encBo) :: ownS 3 1 (.slice sp2 o.slots.length sc) (o.slots.map encI) :: R :: rp4 p bk ck bc bl n K sp cs' Lv) ?_ 0 cs1 (Nat.zero_le _) ok1
    clear hlt hi hi1 ok1 cs1 i
    intro i cs1 hi ok1 ih
    by_cases hlt : i < o.slots.length
    · refine st_own (T := 3) (sz := 1) (l := o.slots.map encI) (s := .slice sp2 o.slots.length sc) remA (fun hs h0 => ?_) (fun bs Ns cc sps hvs hls hsps hcs => ?_)
      · have := congrArg List.length h0; rw [List.length_map, List.length_nil] at this; omega
      cases hvs
      obtain ⟨y, hy⟩ : ∃ y, o.slots[i]? = some y := ⟨o.slots[i], by simp⟩
      have hsi := map_at (f := encI) hy sps
      have hfolds := own_mk (T := 3) (b := bs) hls hsps hcs
      by_cases hm1 : o.blocks.length > 1
      · have hlt2 := ho.many hm1 i hlt
        have hm1' : (1 : Int) < (o.blocks.length : Int) := by omega
        have hbi := hblk (1 + i / 8) hlt2
        have bdi := bd (1 + i / 8)
        refine go ?_
        refine WT_tail 10 (by kernel_rfl) (.succ (.succ (.succ (.succ (.succ (.succ (.succ (.succ (.succ (.succ (.zero))))))))))) ?_
        refine go ?_
        refine call (r10SetCell ok1 _ _) ?_
        rintro _ _ ⟨e2, cs2, rfl, ok2, rfl⟩
        refine go ?_
        refine WT_keep [6, 4, 0, 1] rfl ?_
        refine st_fold (A := ownS 3 1 (.slice (some ⟨bs, 0, none⟩) o.slots.length sc) (o.slots.map encI)) (As := [cel bs (o.slots.map encI ++ sps) 3]) remsA hfolds ?_
        exact pickN (ih cs2 hlt ok2)
      · have hm1' : ¬ (1 : Int) < (o.blocks.length : Int) := by omega
        refine go ?_
        refine WT_tail 10 (by kernel_rfl) (.succ (.succ (.succ (.succ (.succ (.succ (.succ (.succ (.succ (.succ (.zero))))))))))) ?_
        refine go ?_
        refine call (r10SetCell ok1 _ _) ?_
        rintro _ _ ⟨e2, cs2, rfl, ok2, rfl⟩
        refine go ?_
        refine WT_keep [6, 4, 0, 1] rfl ?_
        refine st_fold (A := ownS 3 1 (.slice (some ⟨bs, 0, none⟩) o.slots.length sc) (o.slots.map encI)) (As := [cel bs (o.slots.map encI ++ sps) 3]) remsA hfolds ?_
        exact pickN (ih cs2 hlt ok2)
    · clear ih
      refine go ?_
      refine st_fold (A := ownS 3 1 (.slice (some ⟨bb, 0, none⟩) o.blocks.length bcc) (o.blocks.map encN)) (As := [cel bb (o.blocks.map encN ++ spb) 3]) remsA hfoldb ?_
      refine st_fold (A := rsA rs) (As := [ownS 4 1 (.slice rp o.refs.length rc) (o.refs.map encBo), ownS 3 1 (.slice sp2 o.slots.length sc) (o.slots.map encI), ownS 3 1 (.slice (some ⟨bb, 0, none⟩) o.blocks.length bcc) (o.blocks.map encN), R]) remsA (fun h s => by
        have := hR ⟨o, rp, rc, sp2, sc, some ⟨bb, 0, none⟩, bcc⟩ h s; rwa [set_self hx] at this) ?_
      refine pickN (As := rh2 h bo p nn rs ++ (rsA rs :: rp4 p bk ck bc bl n K sp cs1 Lv)) ?_
      refine WT_end (rs := []) Try.func48 rfl rfl ⟨cs1, rfl, ok1, rfl⟩
end
end Go.Proofs.Ytkknhcdjdcpfcaa
