/- Walks of package block, and of slices. -/
import Derived.Test.YtkknhcdjdcpfcaaInst
import Derived.Test.YtkknhcdjdcpfcaaPBlock
namespace Go.Proofs.Ytkknhcdjdcpfcaa
open Go.Sl Go.Iso
set_option linter.all false

theorem clonePages {b off m c : Nat} {l news : List Value} {T : TypeId} {fr : Nat × Nat} (hl : (l.drop off).take news.length = news) (hn : news.length = m * 25) (h1 : ∀ v ∈ news, v.oneCell' = true) (hm : m ≤ 100000) :
    C Try.prog 77 [.slice (some ⟨b, off, none⟩) m c] [blk b (.cells l.toArray T fr)]
      (fun v L' => L' = [ownS 132 25 v news, blk b (.cells l.toArray T fr)]) := by
  refine C_enter1 Try.func77 rfl rfl rfl fun β F => ?_
  refine go ?_
  refine WO_buildSlice0 rfl rfl rfl rfl fun b' => ?_
  refine st_fold (A := ownS 132 25 (.slice (some ⟨b', 0, none⟩) 0 0) []) (.cons .here .nil) (own_mk (l := []) (sp := []) rfl rfl (Nat.le_refl _)) ?_
  refine go ?_
  refine WO_append rfl rfl rfl .here (fun h s => .inr ⟨b, off, c, l, T, fr, rfl, sep_get (List.mem_cons_self ..) s, hl⟩) hn h1 rfl (by decide) (by simp; omega) (by decide) rfl rfl rfl fun v' => ?_
  refine go ?_
  refine WT_ret (rs := [.tmp 2]) Try.func77 rfl rfl (by rfl)
theorem clonePagesNil {k c : Nat} : C Try.prog 77 [.slice none k c] [] (fun v L' => v = .slice none 0 0 ∧ L' = []) := by
  refine C_enter1 Try.func77 rfl rfl rfl fun β F => ?_
  refine go ?_
  refine WT_ret (rs := [.tmp 2]) Try.func77 rfl rfl ⟨rfl, rfl⟩
theorem cloneInts {b off m c : Nat} {l news : List Value} {T : TypeId} {fr : Nat × Nat} (hl : (l.drop off).take news.length = news) (hn : news.length = m * 1) (h1 : ∀ v ∈ news, v.oneCell' = true) (hm : m ≤ 100000) :
    C Try.prog 35 [.slice (some ⟨b, off, none⟩) m c] [blk b (.cells l.toArray T fr)]
      (fun v L' => L' = [ownS 3 1 v news, blk b (.cells l.toArray T fr)]) := by
  refine C_enter1 Try.func35 rfl rfl rfl fun β F => ?_
  refine go ?_
  refine WO_buildSlice0 rfl rfl rfl rfl fun b' => ?_
  refine st_fold (A := ownS 3 1 (.slice (some ⟨b', 0, none⟩) 0 0) []) (.cons .here .nil) (own_mk (l := []) (sp := []) rfl rfl (Nat.le_refl _)) ?_
  refine go ?_
  refine WO_append rfl rfl rfl .here (fun h s => .inr ⟨b, off, c, l, T, fr, rfl, sep_get (List.mem_cons_self ..) s, hl⟩) hn h1 rfl (by decide) (by simp; omega) (by decide) rfl rfl rfl fun v' => ?_
  refine go ?_
  refine WT_ret (rs := [.tmp 2]) Try.func35 rfl rfl (by rfl)
theorem cloneIntsNil {k c : Nat} : C Try.prog 35 [.slice none k c] [] (fun v L' => v = .slice none 0 0 ∧ L' = []) := by
  refine C_enter1 Try.func35 rfl rfl rfl fun β F => ?_
  refine go ?_
  refine WT_ret (rs := [.tmp 2]) Try.func35 rfl rfl ⟨rfl, rfl⟩
theorem cloneBools {b off m c : Nat} {l news : List Value} {T : TypeId} {fr : Nat × Nat} (hl : (l.drop off).take news.length = news) (hn : news.length = m * 1) (h1 : ∀ v ∈ news, v.oneCell' = true) (hm : m ≤ 100000) :
    C Try.prog 41 [.slice (some ⟨b, off, none⟩) m c] [blk b (.cells l.toArray T fr)]
      (fun v L' => L' = [ownS 4 1 v news, blk b (.cells l.toArray T fr)]) := by
  refine C_enter1 Try.func41 rfl rfl rfl fun β F => ?_
  refine go ?_
  refine WO_buildSlice0 rfl rfl rfl rfl fun b' => ?_
  refine st_fold (A := ownS 4 1 (.slice (some ⟨b', 0, none⟩) 0 0) []) (.cons .here .nil) (own_mk (l := []) (sp := []) rfl rfl (Nat.le_refl _)) ?_
  refine go ?_
  refine WO_append rfl rfl rfl .here (fun h s => .inr ⟨b, off, c, l, T, fr, rfl, sep_get (List.mem_cons_self ..) s, hl⟩) hn h1 rfl (by decide) (by simp; omega) (by decide) rfl rfl rfl fun v' => ?_
  refine go ?_
  refine WT_ret (rs := [.tmp 2]) Try.func41 rfl rfl (by rfl)
theorem cloneBoolsNil {k c : Nat} : C Try.prog 41 [.slice none k c] [] (fun v L' => v = .slice none 0 0 ∧ L' = []) := by
  refine C_enter1 Try.func41 rfl rfl rfl fun β F => ?_
  refine go ?_
  refine WT_ret (rs := [.tmp 2]) Try.func41 rfl rfl ⟨rfl, rfl⟩

/-- The first place of a list where a test holds, or -1. -/
def idx {α : Type} (f : α → Bool) (l : List α) : Int := match l.findIdx? f with | some i => (i : Int) | none => -1
theorem idx_at {α : Type} {f : α → Bool} {l : List α} {k : Nat} {x : α} (hx : l[k]? = some x) (hf : f x = true) (h : ∀ j y, j < k → l[j]? = some y → f y = false) : idx f l = (k : Int) := by
  have : l.findIdx? f = some k := by
    rw [List.findIdx?_eq_some_iff_getElem]
    obtain ⟨hk, hx'⟩ := List.getElem?_eq_some_iff.1 hx
    refine ⟨hk, by rw [hx']; exact hf, fun j hj => ?_⟩
    have := h j l[j] hj (by simp)
    simp [this]
  simp [idx, this]
theorem idx_none {α : Type} {f : α → Bool} {l : List α} (h : ∀ j y, j < l.length → l[j]? = some y → f y = false) : idx f l = -1 := by
  have : l.findIdx? f = none := by
    rw [List.findIdx?_eq_none_iff]
    intro x hx
    obtain ⟨j, hj, rfl⟩ := List.mem_iff_getElem.1 hx
    exact h j _ hj (by simp)
  simp [idx, this]

theorem indexFuncPages {b n c : Nat} {ps : List Pg} {sp : List Value} {g : FuncId} {caps : List Value} {Lc : List SP} {f : Pg → Bool} [Cal Try.prog g] (hlen : ps.length = n) (hn : n ≤ 1000) (hok : ∀ q ∈ ps, q.Ok)
    (hg : ∀ q ∈ ps, C Try.prog g ([] ++ [.agg (encPg q).toArray] ++ caps) Lc (fun v L' => v = .bool (f q) ∧ L' = Lc)) :
    C Try.prog 79 [.slice (some ⟨b, 0, none⟩) n c, .func (.func g) ([] : List Value).toArray caps.toArray] (Lc ++ [cel b (encPgs ps ++ sp) 132])
      (fun v L' => v = .int .i64 (idx f ps) ∧ L' = Lc ++ [cel b (encPgs ps ++ sp) 132]) := by
  refine C_enter2 Try.func79 rfl rfl rfl fun β F => ?_
  refine go ?_
  refine WT_keep [8, 7, 1, 0] rfl ?_
  refine WT_loopN n (fun k => ∀ j y, j < k → ps[j]? = some y → f y = false) (fun k => [(8, .int .i64 (k : Int)), (7, .int .i64 (n : Int)), (1, .func (.func g) ([] : List Value).toArray caps.toArray), (0, .slice (some ⟨b, 0, none⟩) n c)]) (fun _ => Lc ++ [cel b (encPgs ps ++ sp) 132]) ?_ 0 (by omega) (fun j y h => by omega)
  intro k hk hall ih
  by_cases hlt : k < n
  · refine go ?_
    obtain ⟨q, hq⟩ : ∃ q, ps[k]? = some q := ⟨ps[k], by simp⟩
    have hqm := List.mem_of_getElem? hq
    have hat : At (encPgs ps ++ sp) (0 + k * 25) q := by rw [Nat.zero_add]; exact encPgs_at hok hq sp
    refine WO_q (q_loadAgg rfl rfl (List.mem_append_right _ (.head _)) hat (encPg_length (hok q hqm))) rfl rfl rfl ?_
    refine WO_callV (us := []) rfl rfl rfl (hg q hqm) (M := [cel b (encPgs ps ++ sp) 132]) (rems_app _ _) rfl rfl rfl ?_
    rintro _ _ ⟨rfl, rfl⟩
    refine go ?_
    refine WT_cond rfl (fun h => ?_) (fun h => ?_)
    · refine go ?_
      refine WT_ret (rs := [.tmp 4]) Try.func79 rfl rfl ⟨by rw [idx_at hq h hall]; rfl, rfl⟩
    · refine go ?_
      refine WT_keep [8, 7, 1, 0] rfl ?_
      refine ih (by omega) (fun j y hj hy => ?_)
      rcases Nat.lt_or_ge j k with h1 | h1
      · exact hall j y h1 hy
      · have : j = k := by omega
        subst this
        rw [hq] at hy; cases hy; exact h
  · refine go ?_
    refine WT_ret (rs := [.tmp 4]) Try.func79 rfl rfl ⟨by rw [idx_none (fun j y hj hy => hall j y (by omega) hy)]; rfl, rfl⟩

theorem indexBools {b off m c : Nat} {l : List Value} {T : TypeId} {fr : Nat × Nat} {us : List Bool} {x : Bool} (hl : (l.drop off).take m = us.map Value.bool) (hu : us.length = m) (hm : m ≤ 1000) :
    C Try.prog 95 [.slice (some ⟨b, off, none⟩) m c, .bool x] [blk b (.cells l.toArray T fr)]
      (fun v L' => v = .int .i64 (idx (fun u => x == u) us) ∧ L' = [blk b (.cells l.toArray T fr)]) := by
  refine C_enter2 Try.func95 rfl rfl rfl fun β F => ?_
  refine go ?_
  refine WT_keep [8, 7, 1, 0] rfl ?_
  refine WT_loopN m (fun k => ∀ j y, j < k → us[j]? = some y → (x == y) = false) (fun k => [(8, .int .i64 (k : Int)), (7, .int .i64 (m : Int)), (1, .bool x), (0, .slice (some ⟨b, off, none⟩) m c)]) (fun _ => [blk b (.cells l.toArray T fr)]) ?_ 0 (by omega) (fun j y h => by omega)
  intro k hk hall ih
  by_cases hlt : k < m
  · obtain ⟨q, hq⟩ : ∃ q, us[k]? = some q := ⟨us[k], by simp⟩
    have h1 : l[off + k * 1]? = some (.bool q) := by
      rw [Nat.mul_one, getElem?_of_take hl (by simp [hu, hlt])]
      simp [hq]
    refine go ?_
    refine WT_cond rfl (fun h => ?_) (fun h => ?_)
    · refine go ?_
      refine WT_ret (rs := [.tmp 4]) Try.func95 rfl rfl ⟨by rw [idx_at hq h hall]; rfl, rfl⟩
    · refine go ?_
      refine WT_keep [8, 7, 1, 0] rfl ?_
      refine ih (by omega) (fun j y hj hy => ?_)
      rcases Nat.lt_or_ge j k with h1 | h1
      · exact hall j y h1 hy
      · have : j = k := by omega
        subst this
        rw [hq] at hy; cases hy; exact h
  · refine go ?_
    refine WT_ret (rs := [.tmp 4]) Try.func95 rfl rfl ⟨by rw [idx_none (fun j y hj hy => hall j y (by omega) hy)]; rfl, rfl⟩
end Go.Proofs.Ytkknhcdjdcpfcaa
namespace Go.Proofs.Ytkknhcdjdcpfcaa
open Go.Sl Go.Iso
set_option linter.all false

def sizeN (c : Int) : Nat := if c = 0 then 2 else if c = 1 then 4 else 8
def partsN (c : Int) : Nat := if c = 0 then 8 else if c = 1 then 4 else 2

theorem size_any {c : Int} (h : c = 0 ∨ c = 1 ∨ c = 2) : C Try.prog 84 [.int .i64 c] [] (fun v L' => v = .int .i64 (sizeN c : Int) ∧ L' = []) := by
  rcases h with rfl | rfl | rfl
  all_goals
    refine C_enter1 Try.func84 rfl rfl rfl fun β F => ?_
    refine go ?_
    refine WT_ret (rs := [.tmp 2]) Try.func84 rfl rfl ⟨rfl, rfl⟩
theorem parts_any {c : Int} (h : c = 0 ∨ c = 1 ∨ c = 2) : C Try.prog 94 [.int .i64 c] [] (fun v L' => v = .int .i64 (partsN c : Int) ∧ L' = []) := by
  have e : ∀ r : Int, (16 : Int) / (sizeN c : Int) = r → r = (partsN c : Int) ∧ (0 : Int) < (sizeN c : Int) := by
    intro r hr; rcases h with rfl | rfl | rfl <;> exact ⟨hr ▸ rfl, by decide⟩
  obtain ⟨e1, e2⟩ := e _ rfl
  refine C_enter1 Try.func94 rfl rfl rfl fun β F => ?_
  refine go ?_
  refine WO_call rfl rfl (size_any h) .nil rfl rfl rfl ?_
  rintro _ _ ⟨rfl, rfl⟩
  refine go ?_
  refine WT_ret (rs := [.tmp 2]) Try.func94 rfl rfl ⟨by rw [← e1]; rfl, rfl⟩

section
variable {l : List Value} {T : TypeId} {fr : Nat × Nat} {b off : Nat} {p : Pg}
theorem count_any (h : At l off p) (hp : p.Ok) : C Try.prog 93 [.pointer (some ⟨b, off, none⟩)] [blk b (.cells l.toArray T fr)]
    (fun v L' => v = .int .i64 (cnt p.used : Int) ∧ L' = [blk b (.cells l.toArray T fr)]) := by
  have hu := h.used hp
  have hlen := hp.used
  refine C_enter1 Try.func93 rfl rfl rfl fun β F => ?_
  refine go ?_
  refine WO_q (q_loadAgg rfl rfl (.head _) hu (by simp [hlen])) rfl rfl rfl ?_
  refine go ?_
  refine WT_keep [10, 9, 3] rfl ?_
  refine WT_loop (ι := Nat) (fun k => [(10, .int .i64 (k : Int)), (9, .agg (p.used.map Value.bool).toArray), (3, .int .i64 (cnt (p.used.take k) : Int))]) (fun _ => [blk b (.cells l.toArray T fr)]) (fun k => 8 - k) ?_ 0
  intro k ih
  by_cases hk : k < 8
  · refine go ?_
    have h1 : (p.used.map Value.bool)[k * 1]? = some (.bool (p.used.getD k false)) := by simp [hlen, hk]
    refine WO_q (q_index rfl rfl rfl rfl hk h1) rfl rfl rfl ?_
    refine go ?_
    have hc : cnt (p.used.take k) ≤ 8 := Nat.le_trans (cnt_le _) (by simp; omega)
    have h2 : cnt (p.used.take (k + 1)) = cnt (p.used.take k) + if p.used.getD k false = true then 1 else 0 := cnt_succ (by omega)
    refine WT_cond rfl (fun h => ?_) (fun h => ?_)
    · rw [if_pos h] at h2
      refine go ?_
      refine WT_keep [10, 9, 3] rfl ?_
      have := ih (k + 1) (by omega)
      rw [h2] at this
      exact this
    · rw [if_neg (by rw [h]; exact Bool.false_ne_true)] at h2
      refine go ?_
      refine WT_keep [10, 9, 3] rfl ?_
      have := ih (k + 1) (by omega)
      rw [h2] at this
      exact this
  · refine go ?_
    have h3 : p.used.take k = p.used := List.take_of_length_le (by omega)
    refine WT_ret (rs := [.tmp 2]) Try.func93 rfl rfl ⟨by rw [h3]; rfl, rfl⟩
end

section
variable {p b n c : Nat} {ps : List Pg} {sp : List Value}
abbrev pool2 (p b n c : Nat) (ps : List Pg) (sp : List Value) : List SP := [cel p [.slice (some ⟨b, 0, none⟩) n c] 128, cel b (encPgs ps ++ sp) 132]

theorem poolNone (hn : 0 < n) : C Try.prog 76 [.pointer (some ⟨p, 0, none⟩)] (pool2 p b n c ps sp) (fun v L' => v = .bool false ∧ L' = pool2 p b n c ps sp) := by
  refine C_enter1 Try.func76 rfl rfl rfl fun β F => ?_
  refine go ?_
  refine WT_ret (rs := [.tmp 2]) Try.func76 rfl rfl ⟨rfl, rfl⟩
theorem poolClass (hn : 0 < n) {k : Int} (hk : 0 ≤ k ∧ k < 3) : C Try.prog 78 [.pointer (some ⟨p, 0, none⟩), .int .i64 k] (pool2 p b n c ps sp) (fun v L' => v = .bool true ∧ L' = pool2 p b n c ps sp) := by
  refine C_enter2 Try.func78 rfl rfl rfl fun β F => ?_
  refine go ?_
  refine WO_call rfl rfl (poolNone hn) (.cons .here (.cons .here .nil)) rfl rfl rfl ?_
  rintro _ _ ⟨rfl, rfl⟩
  refine go ?_
  refine WT_ret (rs := [.tmp 4]) Try.func78 rfl rfl ⟨rfl, rfl⟩
theorem poolAddress (hn : 0 < n ∧ n ≤ 24) {a : Nat} (ha : a < 16 * n) : C Try.prog 88 [.pointer (some ⟨p, 0, none⟩), .int .i64 (a : Int)] (pool2 p b n c ps sp) (fun v L' => v = .bool true ∧ L' = pool2 p b n c ps sp) := by
  refine C_enter2 Try.func88 rfl rfl rfl fun β F => ?_
  refine go ?_
  refine WO_call rfl rfl (poolNone hn.1) (.cons .here (.cons .here .nil)) rfl rfl rfl ?_
  rintro _ _ ⟨rfl, rfl⟩
  refine go ?_
  refine WT_ret (rs := [.tmp 4]) Try.func88 rfl rfl ⟨rfl, rfl⟩

/-- The used block in which a cell lies. -/
theorem poolWhere (hlen : ps.length = n) (hok : ∀ q ∈ ps, q.Ok) {a : Nat} {q : Pg} (hq : ps[a / 16]? = some q) (hc : 0 ≤ q.cls) (ha : a < 16 * 24) :
    C Try.prog 89 [.pointer (some ⟨p, 0, none⟩), .int .i64 (a : Int)] (pool2 p b n c ps sp)
      (fun v L' => v = .tuple [.pointer (some ⟨b, 0 + a / 16 * 25, none⟩), .int .i64 ((a % 16 / sizeN q.cls : Nat) : Int), .bool (q.used.getD (a % 16 / sizeN q.cls) false)].toArray ∧ L' = pool2 p b n c ps sp) := by
  have hqok := hok q (List.mem_of_getElem? hq)
  have hlt : a / 16 < n := by rw [← hlen]; exact (List.getElem?_eq_some_iff.1 hq).1
  have hat : At (encPgs ps ++ sp) (0 + a / 16 * 25) q := by rw [Nat.zero_add]; exact encPgs_at hok hq sp
  have h0 := hat.cls
  have hcls : q.cls = 0 ∨ q.cls = 1 ∨ q.cls = 2 := by rcases hqok.cls with h | h <;> omega
  have hsz : 0 < sizeN q.cls := by rcases hcls with h | h | h <;> rw [h] <;> decide
  have hk : a % 16 / sizeN q.cls < 8 := by
    rcases hcls with h | h | h <;> rw [h]
    · show a % 16 / 2 < 8; omega
    · show a % 16 / 4 < 8; omega
    · show a % 16 / 8 < 8; omega
  have h1 := hat.used1 hqok hk
  have h1' : (encPgs ps ++ sp)[0 + a / 16 * 25 + 1 + a % 16 / sizeN q.cls * 1]? = some (.bool (q.used.getD (a % 16 / sizeN q.cls) false)) := by rw [Nat.mul_one]; exact h1
  refine C_enter2 Try.func89 rfl rfl rfl fun β F => ?_
  refine go ?_
  refine WO_call rfl rfl (size_any hcls) .nil rfl rfl rfl ?_
  rintro _ _ ⟨rfl, rfl⟩
  refine go ?_
  refine WT_quiet (by kernel_rfl) ?_
  refine go ?_
  refine WT_ret (rs := [.tmp 4, .tmp 5, .tmp 6]) Try.func89 rfl rfl ⟨rfl, rfl⟩

structure LiveAt (ps : List Pg) (a : Nat) (q : Pg) : Prop where
  page : ps[a / 16]? = some q
  cls : 0 ≤ q.cls
  used : q.used.getD (a % 16 / sizeN q.cls) false = true
theorem sizeN_pos {c : Int} : 0 < sizeN c := by unfold sizeN; split; decide; split <;> decide
theorem poolBegin (hlen : ps.length = n) (hn : 0 < n ∧ n ≤ 24) (hok : ∀ q ∈ ps, q.Ok) {a : Nat} {q : Pg} (h : LiveAt ps a q) :
    C Try.prog 70 [.pointer (some ⟨p, 0, none⟩), .int .i64 (a : Int)] (pool2 p b n c ps sp)
      (fun v L' => v = .tuple [.int .i64 ((a / 16 * 16 + a % 16 / sizeN q.cls * sizeN q.cls : Nat) : Int), .int .i64 0].toArray ∧ L' = pool2 p b n c ps sp) := by
  have hlt : a / 16 < n := by rw [← hlen]; exact (List.getElem?_eq_some_iff.1 h.page).1
  have hqok := hok q (List.mem_of_getElem? h.page)
  have hat : At (encPgs ps ++ sp) (0 + a / 16 * 25) q := by rw [Nat.zero_add]; exact encPgs_at hok h.page sp
  have h0 := hat.cls
  have hcc := h.cls
  have hcls : q.cls = 0 ∨ q.cls = 1 ∨ q.cls = 2 := by rcases hqok.cls with h | h <;> omega
  have hm : a % 16 / sizeN q.cls * sizeN q.cls ≤ 15 := Nat.le_trans (Nat.div_mul_le_self _ _) (by omega)
  refine C_enter2 Try.func70 rfl rfl rfl fun β F => ?_
  refine go ?_
  refine WO_call rfl rfl (poolAddress hn (by omega)) (.cons .here (.cons .here .nil)) rfl rfl rfl ?_
  rintro _ _ ⟨rfl, rfl⟩
  refine go ?_
  refine WO_call rfl rfl (poolWhere hlen hok h.page h.cls (by omega)) (.cons .here (.cons .here .nil)) rfl rfl rfl ?_
  rintro _ _ ⟨rfl, rfl⟩
  rw [h.used]
  refine go ?_
  refine WO_call rfl rfl (size_any hcls) .nil rfl rfl rfl ?_
  rintro _ _ ⟨rfl, rfl⟩
  refine go ?_
  refine WT_ret (rs := [.tmp 4, .tmp 5]) Try.func70 rfl rfl ⟨rfl, rfl⟩
theorem poolCell (hlen : ps.length = n) (hn : 0 < n ∧ n ≤ 24) (hok : ∀ q ∈ ps, q.Ok) {a : Nat} {q : Pg} (h : LiveAt ps a q) :
    C Try.prog 92 [.pointer (some ⟨p, 0, none⟩), .int .i64 (a : Int)] (pool2 p b n c ps sp)
      (fun v L' => v = .tuple [.int .i64 (q.cells.getD (a % 16) 0), .int .i64 0].toArray ∧ L' = pool2 p b n c ps sp) := by
  have hlt : a / 16 < n := by rw [← hlen]; exact (List.getElem?_eq_some_iff.1 h.page).1
  have hqok := hok q (List.mem_of_getElem? h.page)
  have hat : At (encPgs ps ++ sp) (0 + a / 16 * 25) q := by rw [Nat.zero_add]; exact encPgs_at hok h.page sp
  have h1 := hat.cells1 hqok (k := a % 16) (by omega)
  have h1' : (encPgs ps ++ sp)[0 + a / 16 * 25 + 9 + a % 16 * 1]? = some (.int .i64 (q.cells.getD (a % 16) 0)) := by rw [Nat.mul_one]; exact h1
  refine C_enter2 Try.func92 rfl rfl rfl fun β F => ?_
  refine go ?_
  refine WO_call rfl rfl (poolBegin hlen hn hok h) (.cons .here (.cons .here .nil)) rfl rfl rfl ?_
  rintro _ _ ⟨rfl, rfl⟩
  refine go ?_
  refine WT_ret (rs := [.tmp 4, .tmp 5]) Try.func92 rfl rfl ⟨rfl, rfl⟩
/-- A number is put into a cell. -/
def setCellP (ps : List Pg) (a : Nat) (q : Pg) (x : Int) : List Pg := ps.set (a / 16) { q with cells := q.cells.set (a % 16) x }
theorem poolSetCell (hlen : ps.length = n) (hn : 0 < n ∧ n ≤ 24) (hok : ∀ q ∈ ps, q.Ok) {a : Nat} {q : Pg} (h : LiveAt ps a q) (x : Int) :
    C Try.prog 45 [.pointer (some ⟨p, 0, none⟩), .int .i64 (a : Int), .int .i64 x] (pool2 p b n c ps sp)
      (fun v L' => v = .int .i64 0 ∧ L' = pool2 p b n c (setCellP ps a q x) sp) := by
  have hlt : a / 16 < n := by rw [← hlen]; exact (List.getElem?_eq_some_iff.1 h.page).1
  have hqok := hok q (List.mem_of_getElem? h.page)
  have hset : (encPgs ps ++ sp).set (0 + a / 16 * 25 + 9 + a % 16 * 1) (.int .i64 x) = encPgs (setCellP ps a q x) ++ sp := by
    have hl := encPgs_length hok
    rw [List.set_append_left _ _ (by omega), Nat.zero_add, Nat.mul_one, Nat.add_assoc, set_encPgs hok h.page (by omega) (set_cell hqok (by omega) x)]
    rfl
  refine C_enter3 Try.func45 rfl rfl rfl fun β F => ?_
  refine go ?_
  refine WO_call rfl rfl (poolBegin hlen hn hok h) (.cons .here (.cons .here .nil)) rfl rfl rfl ?_
  rintro _ _ ⟨rfl, rfl⟩
  refine go ?_
  refine WO_storeS (vs := [.int .i64 x]) rfl rfl rfl rfl (by simp [Value.oneCell']) (by have := encPgs_length hok; simp; omega) (by exact hset) (.there .here) rfl rfl ?_
  refine go ?_
  refine WT_ret (rs := [.tmp 6]) Try.func45 rfl rfl ⟨rfl, rfl⟩
end

section
variable {l : List Value} {T : TypeId} {fr : Nat × Nat} {b off : Nat} {q : Pg}
def partlyB (q : Pg) (k : Int) : Bool := decide (q.cls = k) && decide (cnt q.used < partsN k)
theorem pagePartly (h : At l off q) (hq : q.Ok) {k : Int} (hk : k = 0 ∨ k = 1 ∨ k = 2) : C Try.prog 81 [.pointer (some ⟨b, off, none⟩), .int .i64 k] [blk b (.cells l.toArray T fr)]
    (fun v L' => v = .bool (partlyB q k) ∧ L' = [blk b (.cells l.toArray T fr)]) := by
  have h0 := h.cls
  refine C_enter2 Try.func81 rfl rfl rfl fun β F => ?_
  by_cases hc : q.cls = k
  · refine go ?_
    refine WO_call rfl rfl (count_any h hq) (.cons .here .nil) rfl rfl rfl ?_
    rintro _ _ ⟨rfl, rfl⟩
    refine go ?_
    refine WO_call rfl rfl (parts_any hk) .nil rfl rfl rfl ?_
    rintro _ _ ⟨rfl, rfl⟩
    refine go ?_
    refine WT_ret (rs := [.tmp 4]) Try.func81 rfl rfl ⟨by simp [partlyB, hc, resV], rfl⟩
  · refine go ?_
    refine WT_ret (rs := [.tmp 4]) Try.func81 rfl rfl ⟨by simp [partlyB, hc, resV], rfl⟩
theorem pageFirst (h : At l off q) (hq : q.Ok) (hk : q.cls = 0 ∨ q.cls = 1 ∨ q.cls = 2) (x : Bool) : C Try.prog 83 [.pointer (some ⟨b, off, none⟩), .bool x] [blk b (.cells l.toArray T fr)]
    (fun v L' => v = .int .i64 (idx (fun u => x == u) (q.used.take (partsN q.cls))) ∧ L' = [blk b (.cells l.toArray T fr)]) := by
  have h0 := h.cls
  have hp8 : partsN q.cls ≤ 8 := by rcases hk with h | h | h <;> rw [h] <;> decide
  refine C_enter2 Try.func83 rfl rfl rfl fun β F => ?_
  refine go ?_
  refine WT_quiet (by kernel_rfl) ?_
  refine go ?_
  refine WQ_q (q_call rfl rfl (parts_any hk) .nil) rfl rfl rfl ?_
  refine go ?_
  have e1 : (l.drop (off + 1 + 0 * 1)).take (partsN q.cls - 0) = (q.used.take (partsN q.cls)).map Value.bool := by
    have := h.used hq
    rw [Nat.zero_mul, Nat.add_zero, Nat.sub_zero, List.map_take, ← this, List.take_take, Nat.min_eq_left hp8]
  refine WQ_q (q_call rfl rfl (indexBools (x := x) e1 (by have := hq.used; simp; omega) (by omega)) (.cons .here .nil)) rfl rfl rfl ?_
  refine go ?_
  refine WT_ret (rs := [.tmp 4]) Try.func83 rfl rfl ⟨rfl, rfl⟩
end

theorem alloc1 {q : Pg} (hq : q.Ok) {bc : Nat} {k : Int} (hk : k = 0 ∨ k = 1 ∨ k = 2) : C Try.prog 80 ([] ++ [.agg (encPg q).toArray] ++ [.pointer (some ⟨bc, 0, none⟩)]) [cel bc [.int .i64 k] 3]
    (fun v L' => v = .bool (partlyB q k) ∧ L' = [cel bc [.int .i64 k] 3]) := by
  have hat : At (encPg q) 0 q := by simp only [At, List.drop_zero]; exact List.take_of_length_le (by rw [encPg_length hq]; omega)
  refine C_enter2 Try.func80 rfl rfl rfl fun β F => ?_
  refine WT_seq (WT_region ?_)
  refine WO_box rfl rfl rfl rfl rfl rfl fun b' => ?_
  refine go ?_
  refine WO_call rfl rfl (pagePartly hat hq hk) (.cons .here .nil) rfl rfl rfl ?_
  rintro _ _ ⟨rfl, rfl⟩
  refine go ?_
  refine st_drop .here ?_
  refine WT_ret (rs := [.tmp 3]) Try.func80 rfl rfl ⟨rfl, rfl⟩
theorem alloc2 {q : Pg} (hq : q.Ok) : C Try.prog 82 ([] ++ [.agg (encPg q).toArray] ++ []) []
    (fun v L' => v = .bool (decide (q.cls < 0)) ∧ L' = []) := by
  have hat : At (encPg q) 0 q := by simp only [At, List.drop_zero]; exact List.take_of_length_le (by rw [encPg_length hq]; omega)
  have h0 := hat.cls
  refine C_enter1 Try.func82 rfl rfl rfl fun β F => ?_
  refine WT_seq (WT_region ?_)
  refine WO_box rfl rfl rfl rfl rfl rfl fun b' => ?_
  refine go ?_
  refine st_drop .here ?_
  refine WT_ret (rs := [.tmp 2]) Try.func82 rfl rfl ⟨rfl, rfl⟩

/-- The block j of a page is taken, for the class k. -/
def takeBlock (q : Pg) (k : Int) (j : Nat) : Pg := { cls := k, used := q.used.set j true, cells := q.cells.take (j * sizeN k) ++ List.replicate (sizeN k) 0 ++ q.cells.drop (j * sizeN k + sizeN k) }
theorem spl_cells {q : Pg} (hq : q.Ok) {a m : Nat} (h : a + m ≤ 16) : spl (encPg q) (9 + a) (List.replicate m (.int .i64 0)) = encPg { q with cells := q.cells.take a ++ List.replicate m 0 ++ q.cells.drop (a + m) } := by
  rw [spl_eq _ _ _ (by rw [encPg_length hq]; simp; omega)]
  have e1 : (encPg q).take (9 + a) = .int .i64 q.cls :: (q.used.map Value.bool ++ (q.cells.take a).map (Value.int .i64)) := by
    simp only [encPg, show 9 + a = (8 + a) + 1 by omega, List.take_succ_cons]
    rw [List.take_append]
    simp [hq.used, List.take_of_length_le, List.map_take]
  have e2 : (encPg q).drop (9 + a + m) = (q.cells.drop (a + m)).map (Value.int .i64) := by
    simp only [encPg, show 9 + a + m = (8 + (a + m)) + 1 by omega, List.drop_succ_cons]
    rw [List.drop_append]
    simp [hq.used, List.drop_of_length_le, List.map_drop]
  rw [e1, List.length_replicate, e2]
  simp [encPg]
theorem spl_left {A B vs : List Value} {k : Nat} (h : k + vs.length ≤ A.length) : spl (A ++ B) k vs = spl A k vs ++ B := by
  rw [spl_eq _ _ _ (by simp; omega), spl_eq _ _ _ h, List.take_append_of_le_length (by omega), List.drop_append_of_le_length (by omega)]
  simp
theorem spl_right {A B vs : List Value} {k : Nat} (h : k + vs.length ≤ B.length) : spl (A ++ B) (A.length + k) vs = A ++ spl B k vs := by
  rw [spl_eq _ _ _ (by simp; omega), spl_eq _ _ _ h, List.take_length_add_append, Nat.add_assoc, List.drop_length_add_append]
  simp
theorem spl_encPgs {vs : List Value} {q' : Pg} : ∀ {ps : List Pg} (_ : ∀ q ∈ ps, q.Ok) {i j : Nat} {q : Pg}, ps[i]? = some q → j + vs.length ≤ 25 → spl (encPg q) j vs = encPg q' → spl (encPgs ps) (i * 25 + j) vs = encPgs (ps.set i q')
  | [], _, _, _, _, h, _, _ => by cases h
  | p :: ps, hok, 0, j, q, h, hj, he => by
    simp at h; subst h
    have := encPg_length (hok p (List.mem_cons_self ..))
    simp only [encPgs, List.flatMap_cons, List.set_cons_zero, Nat.zero_mul, Nat.zero_add]
    rw [spl_left (by omega), he]
  | p :: ps, hok, i + 1, j, q, h, hj, he => by
    have hp := encPg_length (hok p (List.mem_cons_self ..))
    have ih := spl_encPgs (vs := vs) (q' := q') (fun q hq => hok q (List.mem_cons_of_mem _ hq)) (i := i) (by simpa using h) hj he
    have hl := encPgs_length (fun q hq => hok q (List.mem_cons_of_mem _ hq))
    have hi : i < ps.length := (List.getElem?_eq_some_iff.1 (by simpa using h)).1
    simp only [encPgs, List.flatMap_cons, List.set_cons_succ] at ih hl ⊢
    rw [show (i + 1) * 25 + j = (encPg p).length + (i * 25 + j) by omega, spl_right (by omega), ih]
end Go.Proofs.Ytkknhcdjdcpfcaa
