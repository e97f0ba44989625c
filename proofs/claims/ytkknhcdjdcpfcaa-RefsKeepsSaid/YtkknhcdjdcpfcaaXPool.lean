/- Walks of package pool, and of an object. -/
import Derived.Test.YtkknhcdjdcpfcaaInst
import Derived.Test.YtkknhcdjdcpfcaaWAlloc
namespace Go.Proofs.Ytkknhcdjdcpfcaa
open Go.Sl Go.Iso
set_option linter.all false

/-- A page that is as pages are. -/
structure PgWf (q : Pg) : Prop where
  ok : q.Ok
  idle : q.cls = -1 → ∀ k, q.used.getD k false = false
  rest : ∀ k, partsN q.cls ≤ k → q.used.getD k false = false
def poolA (p : Nat) (ps : List Pg) : SP := fun h => ∃ x : Nat × Nat × List Value, (0 < ps.length ∧ ps.length ≤ 24 ∧ (∀ q ∈ ps, PgWf q)) ∧ sep (pool2 p x.1 ps.length x.2.1 ps x.2.2) h
theorem poolA_mk {p b n c : Nat} {ps : List Pg} {sp : List Value} (hn : ps.length = n) (h0 : 0 < n ∧ n ≤ 24) (hw : ∀ q ∈ ps, PgWf q) (h : Hp) (s : sep (pool2 p b n c ps sp) h) : poolA p ps h := by
  subst hn; exact ⟨(b, c, sp), ⟨h0.1, h0.2, hw⟩, s⟩

/-- The block j of the page i is taken. -/
def freeAt (q : Pg) (k : Int) : Nat := (q.used.take (partsN k)).findIdx (fun u => false == u)
def allocP (ps : List Pg) (k : Int) : Option (Nat × List Pg) :=
  match ps.findIdx? (fun q => partlyB q k) with
  | some i => some (i * 16 + freeAt (ps.getD i default) k * sizeN k, ps.set i (takeBlock (ps.getD i default) k (freeAt (ps.getD i default) k)))
  | none => match ps.findIdx? (fun q => decide (q.cls < 0)) with
    | some i => some (i * 16, ps.set i (takeBlock (ps.getD i default) k 0))
    | none => none
theorem idx_of {α : Type} {f : α → Bool} {l : List α} : idx f l = match l.findIdx? f with | some i => (i : Int) | none => -1 := rfl

theorem free_lt {q : Pg} (hq : q.Ok) {k : Int} (hk : k = 0 ∨ k = 1 ∨ k = 2) (h : cnt q.used < partsN k) : freeAt q k < partsN k ∧ idx (fun u => false == u) (q.used.take (partsN k)) = (freeAt q k : Int) := by
  have hp8 : partsN k ≤ 8 := by rcases hk with h | h | h <;> rw [h] <;> decide
  have hl : (q.used.take (partsN k)).length = partsN k := by simp [hq.used, hp8]
  have hex : ∃ u ∈ q.used.take (partsN k), (fun u => false == u) u = true := by
    apply Classical.byContradiction
    intro hc
    have hall : ∀ u ∈ q.used.take (partsN k), u = true := by
      intro u hu
      cases u with
      | true => rfl
      | false => exact absurd ⟨false, hu, rfl⟩ hc
    have h1 : cnt (q.used.take (partsN k)) = partsN k := by
      have := List.count_eq_length.2 (fun u hu => (hall u hu).symm)
      rw [cnt, this, hl]
    have h2 : cnt (q.used.take (partsN k)) ≤ cnt q.used := List.Sublist.count_le _ (List.take_sublist _ _)
    omega
  have hlt : freeAt q k < (q.used.take (partsN k)).length := List.findIdx_lt_length_of_exists hex
  refine ⟨by rw [← hl]; exact hlt, ?_⟩
  have : (q.used.take (partsN k)).findIdx? (fun u => false == u) = some (freeAt q k) := by
    rw [List.findIdx?_eq_some_iff_findIdx_eq]
    exact ⟨hlt, rfl⟩
  rw [idx_of, this]
theorem takeBlock_ok {q : Pg} (hq : q.Ok) {k : Int} (hk : k = 0 ∨ k = 1 ∨ k = 2) {j : Nat} (hj : j < partsN k) : (takeBlock q k j).Ok := by
  have hpp := partsN_mul hk
  have : j * sizeN k + sizeN k ≤ 16 := by rw [← hpp, ← Nat.succ_mul]; exact Nat.mul_le_mul_right _ hj
  refine ⟨by simp [takeBlock, hq.used], ?_, .inr hk⟩
  simp [takeBlock, hq.cells]
  omega
theorem takeBlock_wf {q : Pg} (hq : PgWf q) {k : Int} (hk : k = 0 ∨ k = 1 ∨ k = 2) {j : Nat} (hj : j < partsN k) (hc : q.cls = k ∨ q.cls = -1) : PgWf (takeBlock q k j) := by
  refine ⟨takeBlock_ok hq.ok hk hj, fun h => by simp [takeBlock] at h; rcases hk with h' | h' | h' <;> omega, fun i hi => ?_⟩
  have hi' : partsN k ≤ i := hi
  have hne : j ≠ i := by omega
  have e : (takeBlock q k j).used.getD i false = q.used.getD i false := by simp [takeBlock, List.getElem?_set_ne hne]
  rw [e]
  rcases hc with h | h
  · exact hq.rest i (by rw [h]; exact hi')
  · exact hq.idle h i
theorem allocP_wf {ps ps' : List Pg} {k : Int} {a : Nat} (hw : ∀ q ∈ ps, PgWf q) (hk : k = 0 ∨ k = 1 ∨ k = 2) (h : allocP ps k = some (a, ps')) : (∀ q ∈ ps', PgWf q) ∧ ps'.length = ps.length := by
  unfold allocP at h
  split at h
  · rename_i i hi
    simp only [Option.some.injEq, Prod.mk.injEq] at h
    obtain ⟨_, rfl⟩ := h
    obtain ⟨hlt, hf⟩ := List.findIdx?_eq_some_iff_getElem.1 hi
    have hg : ps.getD i default = ps[i] := by simp [hlt]
    have hq := hw ps[i] (List.getElem_mem hlt)
    have hpb := hf.1
    simp only [partlyB, Bool.and_eq_true, decide_eq_true_eq] at hpb
    have hj := (free_lt hq.ok hk hpb.2).1
    refine ⟨fun q hm => ?_, by simp⟩
    rcases List.mem_or_eq_of_mem_set hm with h | rfl
    · exact hw _ h
    · rw [hg]; exact takeBlock_wf hq hk hj (.inl hpb.1)
  · split at h
    · rename_i i hi
      simp only [Option.some.injEq, Prod.mk.injEq] at h
      obtain ⟨_, rfl⟩ := h
      obtain ⟨hlt, hf⟩ := List.findIdx?_eq_some_iff_getElem.1 hi
      have hg : ps.getD i default = ps[i] := by simp [hlt]
      have hq := hw ps[i] (List.getElem_mem hlt)
      have hc : ps[i].cls = -1 := by
        have := hf.1
        simp only [decide_eq_true_eq] at this
        rcases hq.ok.cls with h | h | h | h <;> omega
      refine ⟨fun q hm => ?_, by simp⟩
      rcases List.mem_or_eq_of_mem_set hm with h | rfl
      · exact hw _ h
      · rw [hg]; exact takeBlock_wf hq hk (by rcases hk with h | h | h <;> rw [h] <;> decide) (.inr hc)
    · cases h

/-- Alloc. -/
theorem poolAlloc {p : Nat} {ps : List Pg} {k : Int} (hk : k = 0 ∨ k = 1 ∨ k = 2) :
    C Try.prog 65 [.pointer (some ⟨p, 0, none⟩), .int .i64 k] [poolA p ps]
      (fun v L' => match allocP ps k with
        | some (a, ps') => v = .tuple [.int .i64 (a : Int), .int .i64 0].toArray ∧ L' = [poolA p ps']
        | none => v = .tuple [.int .i64 0, .int .i64 14].toArray ∧ L' = [poolA p ps]) := by
  intro β F
  refine st_ex (A := poolA p ps) (L := [poolA p ps]) .here (fun h s => s) ?_
  rintro ⟨b, c, sp⟩ ⟨h0, h24, hw⟩
  have hok : ∀ q ∈ ps, q.Ok := fun q hq => (hw q hq).ok
  have fold : ∀ {ps' : List Pg} {w' : World}, ps'.length = ps.length → (∀ q ∈ ps', PgWf q) → Ok β F (pool2 p b ps.length c ps' sp) w' → Ok β F [poolA p ps'] w' := by
    intro ps' w' hl hw' hO
    have : pool2 p b ps.length c ps' sp = pool2 p b ps.length c ps' sp ++ [] := by simp
    rw [this] at hO
    exact hO.map fun h s => sep_fold (A := poolA p ps') (fun h s => poolA_mk hl ⟨h0, h24⟩ hw' h s) s
  simp only [List.append_nil]
  cases hA : allocP ps k with
  | none =>
    have h1 : ps.findIdx? (fun q => partlyB q k) = none ∧ ps.findIdx? (fun q => decide (q.cls < 0)) = none := by
      unfold allocP at hA
      split at hA
      · cases hA
      · rename_i h1; split at hA
        · cases hA
        · rename_i h2; exact ⟨h1, h2⟩
    intro w hO
    refine (allocFull rfl ⟨h0, h24⟩ hok hk (by rw [idx_of, h1.1]) (by rw [idx_of, h1.2]) β F w hO).mono ?_
    rintro e w' ⟨v, L', rfl, ⟨rfl, rfl⟩, hO'⟩
    exact ⟨_, _, rfl, ⟨rfl, rfl⟩, fold rfl hw hO'⟩
  | some r =>
    obtain ⟨a, ps'⟩ := r
    obtain ⟨hw', hl'⟩ := allocP_wf hw hk hA
    have hA' := hA
    unfold allocP at hA'
    intro w hO
    split at hA'
    · rename_i i hi
      simp only [Option.some.injEq, Prod.mk.injEq] at hA'
      obtain ⟨rfl, rfl⟩ := hA'
      obtain ⟨hlt, hf⟩ := List.findIdx?_eq_some_iff_getElem.1 hi
      have hg : ps.getD i default = ps[i] := by simp [hlt]
      have hpb := hf.1
      simp only [partlyB, Bool.and_eq_true, decide_eq_true_eq] at hpb
      have hj := free_lt (hok ps[i] (List.getElem_mem hlt)) hk hpb.2
      rw [hg] at hw' hl' ⊢
      refine (allocOk (ps := ps) (ps1 := ps) rfl ⟨h0, h24⟩ hok hk (i := i) (q := ps[i]) (.inl ⟨by rw [idx_of, hi], by simp [hlt], hpb.1, rfl⟩) hj.2 hj.1 β F w hO).mono ?_
      rintro e w' ⟨v, L', rfl, ⟨rfl, rfl⟩, hO'⟩
      exact ⟨_, _, rfl, ⟨rfl, rfl⟩, fold hl' hw' hO'⟩
    · rename_i hn
      split at hA'
      · rename_i i hi
        simp only [Option.some.injEq, Prod.mk.injEq] at hA'
        obtain ⟨rfl, rfl⟩ := hA'
        obtain ⟨hlt, hf⟩ := List.findIdx?_eq_some_iff_getElem.1 hi
        have hg : ps.getD i default = ps[i] := by simp [hlt]
        have hq := hw ps[i] (List.getElem_mem hlt)
        have hc : ps[i].cls = -1 := by
          have := hf.1
          simp only [decide_eq_true_eq] at this
          rcases hq.ok.cls with h | h | h | h <;> omega
        rw [hg] at hw' hl' ⊢
        have hpos : 0 < partsN k := by rcases hk with h | h | h <;> rw [h] <;> decide
        have h8 := hq.ok.used
        have hu0 : ps[i].used[0]? = some false := by
          have := hq.idle hc 0
          have hl : 0 < ps[i].used.length := by omega
          simp [hl] at this ⊢; exact this
        have hj : idx (fun u => false == u) (ps[i].used.take (partsN k)) = ((0 : Nat) : Int) := idx_at (x := false) (by rw [List.getElem?_take_of_lt hpos]; exact hu0) rfl (fun j y h => by omega)
        refine (allocOk (ps := ps.set i { ps[i] with cls := k }) (ps1 := ps) (q := { ps[i] with cls := k }) rfl ⟨h0, h24⟩ hok hk (i := i) (j := 0) (.inr ⟨by rw [idx_of, hn], by rw [idx_of, hi], ps[i], by simp [hlt], rfl, rfl⟩) hj hpos β F w hO).mono ?_
        rintro e w' ⟨v, L', rfl, ⟨rfl, rfl⟩, hO'⟩
        have e1 : (ps.set i { ps[i] with cls := k }).set i (takeBlock { ps[i] with cls := k } k 0) = ps.set i (takeBlock ps[i] k 0) := by simp [takeBlock]
        rw [e1] at hO'
        exact ⟨_, _, rfl, ⟨by simp, rfl⟩, fold hl' hw' hO'⟩
      · cases hA'
end Go.Proofs.Ytkknhcdjdcpfcaa
namespace Go.Proofs.Ytkknhcdjdcpfcaa
open Go.Sl Go.Iso
set_option linter.all false

theorem st_pool {β : Bs} {F : SP} {L M : List SP} {X : World → Prop} {p : Nat} {ps : List Pg} (r : Rem (poolA p ps) L M)
    (k : ∀ b c sp, 0 < ps.length → ps.length ≤ 24 → (∀ q ∈ ps, PgWf q) → St β F (pool2 p b ps.length c ps sp ++ M) X) : St β F L X :=
  st_ex r (fun h s => s) fun x hx => k x.1 x.2.1 x.2.2 hx.1 hx.2.1 hx.2.2
theorem st_toPool {β : Bs} {F : SP} {L M : List SP} {X : World → Prop} {p b n c : Nat} {ps : List Pg} {sp : List Value} (r : Rems (pool2 p b n c ps sp) L M) (hn : ps.length = n) (h0 : 0 < n ∧ n ≤ 24) (hw : ∀ q ∈ ps, PgWf q)
    (k : St β F (poolA p ps :: M) X) : St β F L X := st_fold r (poolA_mk hn h0 hw) k
/-- A contract over the parts of a pool is one over the pool. -/
theorem C_pool {f : FuncId} {args : List Value} {p : Nat} {ps ps' : List Pg} {v : Value} (hl : ps'.length = ps.length) (hw' : (∀ q ∈ ps, PgWf q) → ∀ q ∈ ps', PgWf q)
    (h : ∀ b c sp, 0 < ps.length → ps.length ≤ 24 → (∀ q ∈ ps, PgWf q) → C Try.prog f args (pool2 p b ps.length c ps sp) (fun v' L' => v' = v ∧ L' = pool2 p b ps.length c ps' sp)) :
    C Try.prog f args [poolA p ps] (fun v' L' => v' = v ∧ L' = [poolA p ps']) := by
  intro β F
  refine st_pool .here fun b c sp h0 h24 hw => ?_
  rw [List.append_nil]
  intro w hO
  refine (h b c sp h0 h24 hw β F w hO).mono ?_
  rintro e w' ⟨v, L', rfl, ⟨rfl, rfl⟩, hO'⟩
  refine ⟨_, _, rfl, ⟨rfl, rfl⟩, ?_⟩
  have : pool2 p b ps.length c ps' sp = pool2 p b ps.length c ps' sp ++ [] := by simp
  rw [this] at hO'
  exact hO'.map fun h s => sep_fold (poolA_mk hl ⟨h0, h24⟩ (hw' hw)) s
theorem poolCellA {p : Nat} {ps : List Pg} {a : Nat} {q : Pg} (h : LiveAt ps a q) :
    C Try.prog 92 [.pointer (some ⟨p, 0, none⟩), .int .i64 (a : Int)] [poolA p ps]
      (fun v L' => v = .tuple [.int .i64 (q.cells.getD (a % 16) 0), .int .i64 0].toArray ∧ L' = [poolA p ps]) :=
  C_pool rfl (fun h => h) fun b c sp h0 h24 hw => poolCell rfl ⟨h0, h24⟩ (fun q hq => (hw q hq).ok) h
theorem setCellP_wf {ps : List Pg} {a : Nat} {q : Pg} (h : LiveAt ps a q) (x : Int) (hw : ∀ q ∈ ps, PgWf q) : ∀ q' ∈ setCellP ps a q x, PgWf q' := by
  intro q' hq'
  have hq := hw q (List.mem_of_getElem? h.page)
  rcases List.mem_or_eq_of_mem_set hq' with h | rfl
  · exact hw _ h
  · exact ⟨⟨hq.ok.used, by simp [hq.ok.cells], hq.ok.cls⟩, hq.idle, hq.rest⟩
theorem poolSetCellA {p : Nat} {ps : List Pg} {a : Nat} {q : Pg} (h : LiveAt ps a q) (x : Int) :
    C Try.prog 45 [.pointer (some ⟨p, 0, none⟩), .int .i64 (a : Int), .int .i64 x] [poolA p ps]
      (fun v L' => v = .int .i64 0 ∧ L' = [poolA p (setCellP ps a q x)]) :=
  C_pool (by simp [setCellP]) (fun hw => setCellP_wf h x hw) fun b c sp h0 h24 hw => poolSetCell rfl ⟨h0, h24⟩ (fun q hq => (hw q hq).ok) h x

theorem encPgs_one {ps : List Pg} : ∀ v ∈ encPgs ps, v.oneCell' = true := by
  intro v hv
  simp only [encPgs, List.mem_flatMap, encPg, List.mem_cons, List.mem_append, List.mem_map] at hv
  obtain ⟨q, _, rfl | ⟨u, _, rfl⟩ | ⟨u, _, rfl⟩⟩ := hv <;> rfl
/-- Copy. -/
theorem poolCopy {p : Nat} {ps : List Pg} : C Try.prog 64 [.pointer (some ⟨p, 0, none⟩)] [poolA p ps]
    (fun v L' => ∃ p', v = .pointer (some ⟨p', 0, none⟩) ∧ L' = [poolA p' ps, poolA p ps]) := by
  refine C_enter1 Try.func64 rfl rfl rfl fun β F => ?_
  refine st_pool .here fun b c sp h0 h24 hw => ?_
  refine go ?_
  refine call (poolNone h0) ?_
  rintro _ _ ⟨rfl, rfl⟩
  refine go ?_
  have hok : ∀ q ∈ ps, q.Ok := fun q hq => (hw q hq).ok
  have hl := encPgs_length hok
  refine call (clonePages (l := encPgs ps ++ sp) (news := encPgs ps) (by rw [List.drop_zero, List.take_left']; rfl) hl encPgs_one (by omega)) ?_
  rintro v _ rfl
  refine st_own .here ?_ ?_
  · rintro rfl h; rw [h] at hl; simp at hl; omega
  rintro b' k c' sp' rfl hk hsp hkc
  have hkn : k = ps.length := by omega
  subst hkn
  refine go ?_
  refine WO_box rfl rfl rfl rfl rfl rfl fun p' => ?_
  refine go ?_
  refine st_toPool (p := p') (b := b') (n := ps.length) (c := c') (ps := ps) (sp := sp') (.cons .here (.cons .here .nil)) rfl ⟨h0, h24⟩ hw ?_
  refine st_toPool (p := p) (b := b) (n := ps.length) (c := c) (ps := ps) (sp := sp) (.cons (.there (.there .here)) (.cons (.there .here) .nil)) rfl ⟨h0, h24⟩ hw ?_
  refine pick (As := [poolA p' ps, poolA p ps]) ?_
  refine WT_ret (rs := [.tmp 2]) Try.func64 rfl rfl ⟨p', rfl, rfl⟩

def zeroPg : Pg := { cls := 0, used := List.replicate 8 false, cells := List.replicate 16 0 }
def freePg : Pg := { cls := -1, used := List.replicate 8 false, cells := List.replicate 16 0 }
theorem zeroPg_ok : zeroPg.Ok := ⟨rfl, rfl, .inr (.inl rfl)⟩
theorem freePg_ok : freePg.Ok := ⟨rfl, rfl, .inl rfl⟩
theorem rep_false (n k : Nat) : (List.replicate n false).getD k false = false := by
  rw [List.getD_eq_getElem?_getD, List.getElem?_replicate]; split <;> rfl
theorem freePg_wf : PgWf freePg := ⟨freePg_ok, fun _ k => rep_false 8 k, fun k _ => rep_false 8 k⟩
theorem zero_pages (z : Array Value) (hz : z.size = 25) (hz' : z.toList = encPg zeroPg) : ∀ n, (List.range (n * 25)).map (fun i => z[i % 25]!) = encPgs (List.replicate n zeroPg)
  | 0 => rfl
  | n + 1 => by
    rw [Nat.succ_mul, List.range_add, List.map_append, zero_pages z hz hz' n, List.replicate_succ', encPgs, encPgs, List.flatMap_append, List.flatMap_singleton, ← hz', List.map_map]
    congr 1
    apply List.ext_getElem
    · simp [hz]
    · intro i h1 h2
      have hi : i < 25 := by simpa using h1
      have e : (n * 25 + i) % 25 = i := by omega
      simp [e, hz, hi]
/-- New. -/
theorem poolNew {n : Nat} (h0 : 0 < n ∧ n ≤ 24) : C Try.prog 37 [.int .i64 (n : Int)] []
    (fun v L' => ∃ p, v = .tuple [.pointer (some ⟨p, 0, none⟩), .int .i64 0].toArray ∧ L' = [poolA p (List.replicate n freePg)]) := by
  refine C_enter1 Try.func37 rfl rfl rfl fun β F => ?_
  refine go ?_
  refine WO_makeSlice (l := encPgs (List.replicate n zeroPg)) rfl rfl rfl (Nat.le_refl n) (by rw [if_neg (by omega)]; exact zero_pages _ rfl rfl n) (by omega) (by decide) rfl rfl rfl fun b => ?_
  refine go ?_
  refine WO_box rfl rfl rfl rfl rfl rfl fun p => ?_
  refine go ?_
  refine WT_keep [21, 20, 4] rfl ?_
  have hok : ∀ k, ∀ q ∈ List.replicate k freePg ++ List.replicate (n - k) zeroPg, q.Ok := fun k q hq => by
    rcases List.mem_append.1 hq with h | h
    · rw [List.eq_of_mem_replicate h]; exact freePg_ok
    · rw [List.eq_of_mem_replicate h]; exact zeroPg_ok
  refine WT_loopN n (fun _ => True) (fun k => [(21, .int .i64 (k : Int)), (20, .int .i64 (n : Int)), (4, .pointer (some ⟨p, 0, none⟩))]) (fun k => [cel p [.slice (some ⟨b, 0, none⟩) n n] 128, cel b (encPgs (List.replicate k freePg ++ List.replicate (n - k) zeroPg)) 132]) ?_ 0 (by omega) trivial
  intro k hk _ ih
  by_cases hlt : k < n
  · have hl := encPgs_length (hok k)
    have hset : spl (encPgs (List.replicate k freePg ++ List.replicate (n - k) zeroPg)) (0 + k * 25 + 0) [.int .i64 (-1)] = encPgs (List.replicate (k + 1) freePg ++ List.replicate (n - (k + 1)) zeroPg) := by
      rw [Nat.zero_add, spl_encPgs (hok k) (i := k) (j := 0) (q := zeroPg) (q' := freePg) (by simp [List.getElem?_append, List.getElem?_replicate]; omega) (by simp) (by rfl)]
      congr 1
      rw [List.set_append_right _ _ (by simp), show n - k = (n - (k + 1)) + 1 by omega, List.replicate_succ, List.replicate_succ']
      simp
    refine go ?_
    refine WO_storeS (vs := [.int .i64 (-1)]) rfl rfl rfl rfl (by simp [Value.oneCell']) (by rw [hl]; simp; omega) hset (.there .here) rfl rfl ?_
    refine go ?_
    refine WT_keep [21, 20, 4] rfl ?_
    exact ih (by omega) trivial
  · have hkn : k = n := by omega
    subst hkn
    refine go ?_
    rw [Nat.sub_self, List.replicate_zero, List.append_nil]
    refine st_toPool (M := []) (p := p) (b := b) (n := k) (c := k) (ps := List.replicate k freePg) (sp := []) (by rw [pool2, List.append_nil]; exact .cons .here (.cons .here .nil)) (by simp) h0 (fun q hq => by rw [List.eq_of_mem_replicate hq]; exact freePg_wf) ?_
    refine WT_ret (rs := [.tmp 2, .tmp 3]) Try.func37 rfl rfl ⟨p, rfl, rfl⟩
end Go.Proofs.Ytkknhcdjdcpfcaa
namespace Go.Proofs.Ytkknhcdjdcpfcaa
open Go.Sl Go.Iso
set_option linter.all false

abbrev encN (a : Nat) : Value := .int .i64 (a : Int)
/-- An object or an array. -/
structure Th where
  kind : Int
  cls : Int
  len : Nat
  refs : List Bool
  blocks : List Nat
def thingA (t : Nat) (X : Th) : SP := fun h => ∃ x : Value × Nat × Nat × List Value, (X.blocks.length ≤ x.2.2.1 ∧ x.2.2.2.length = (x.2.2.1 - X.blocks.length) * 1) ∧
  sep [cel t [.int .i64 X.kind, .int .i64 X.cls, .int .i64 (X.len : Int), x.1, .slice (some ⟨x.2.1, 0, none⟩) X.blocks.length x.2.2.1] 104,
    cel x.2.1 (X.blocks.map encN ++ x.2.2.2) 3, ownS 4 1 x.1 (X.refs.map Value.bool)] h
/-- A thing laid open. -/
abbrev thing3 (t : Nat) (X : Th) (rv : Value) (bb c : Nat) (sp : List Value) : List SP :=
  [cel t [.int .i64 X.kind, .int .i64 X.cls, .int .i64 (X.len : Int), rv, .slice (some ⟨bb, 0, none⟩) X.blocks.length c] 104,
    cel bb (X.blocks.map encN ++ sp) 3, ownS 4 1 rv (X.refs.map Value.bool)]
theorem st_thing {β : Bs} {F : SP} {L M : List SP} {X' : World → Prop} {t : Nat} {X : Th} (r : Rem (thingA t X) L M)
    (k : ∀ rv bb c sp, X.blocks.length ≤ c → sp.length = (c - X.blocks.length) * 1 → St β F (thing3 t X rv bb c sp ++ M) X') : St β F L X' :=
  st_ex r (fun h s => s) fun x hx => k x.1 x.2.1 x.2.2.1 x.2.2.2 hx.1 hx.2
theorem st_toThing {β : Bs} {F : SP} {L M : List SP} {X' : World → Prop} {t : Nat} {X : Th} {rv : Value} {bb c : Nat} {sp : List Value} (r : Rems (thing3 t X rv bb c sp) L M) (hc : X.blocks.length ≤ c) (hs : sp.length = (c - X.blocks.length) * 1)
    (k : St β F (thingA t X :: M) X') : St β F L X' := st_fold r (fun h s => ⟨(rv, bb, c, sp), ⟨hc, hs⟩, s⟩) k

theorem fitAny {n : Nat} (h : n ≤ 100) : C Try.prog 63 [.int .i64 (n : Int)] [] (fun v L' => v = .int .i64 (if n ≤ 2 then 0 else if n ≤ 4 then 1 else 2) ∧ L' = []) := by
  refine C_enter1 Try.func63 rfl rfl rfl fun β F => ?_
  by_cases h2 : n ≤ 2
  · refine go ?_
    refine WT_ret (rs := [.tmp 2]) Try.func63 rfl rfl ⟨by rw [if_pos h2]; rfl, rfl⟩
  · by_cases h4 : n ≤ 4
    · refine go ?_
      refine WT_ret (rs := [.tmp 2]) Try.func63 rfl rfl ⟨by rw [if_neg h2, if_pos h4]; rfl, rfl⟩
    · refine go ?_
      refine WT_ret (rs := [.tmp 2]) Try.func63 rfl rfl ⟨by rw [if_neg h2, if_neg h4]; rfl, rfl⟩

/-- The things by their handles: handle, pointer, thing. -/
abbrev Ths := List (Nat × Nat × Th)
def look : Ths → Int → Option (Nat × Th)
  | [], _ => none
  | (i, t, X) :: r, k => if k = (i : Int) then some (t, X) else look r k
def lookV (ths : Ths) (k : Int) : Option Value := (look ths k).map fun x => .pointer (some ⟨x.1, 0, none⟩)
abbrev heap2 (h p m : Nat) (ths : Ths) : List SP := [cel h [.pointer (some ⟨p, 0, none⟩), .map (some m)] 98, mapA m (lookV ths)]
theorem heapNone {h p m : Nat} {ths : Ths} : C Try.prog 39 [.pointer (some ⟨h, 0, none⟩)] (heap2 h p m ths) (fun v L' => v = .bool false ∧ L' = heap2 h p m ths) := by
  refine C_enter1 Try.func39 rfl rfl rfl fun β F => ?_
  refine go ?_
  refine WT_ret (rs := [.tmp 2]) Try.func39 rfl rfl ⟨rfl, rfl⟩
/-- The pointer of a handle, and whether there is one. -/
def findV (ths : Ths) (k : Int) : Value := match look ths k with
  | some x => .tuple [.pointer (some ⟨x.1, 0, none⟩), .int .i64 0].toArray
  | none => .tuple [.pointer none, .int .i64 3].toArray
theorem heapFind {h p m : Nat} {ths : Ths} (k : Int) : C Try.prog 69 [.pointer (some ⟨h, 0, none⟩), .int .i64 k] (heap2 h p m ths) (fun v L' => v = findV ths k ∧ L' = heap2 h p m ths) := by
  refine C_enter2 Try.func69 rfl rfl rfl fun β F => ?_
  refine go ?_
  refine call heapNone ?_
  rintro _ _ ⟨rfl, rfl⟩
  refine go ?_
  refine WO_q (q_lookup rfl rfl rfl (.tail _ (.head _))) rfl rfl rfl ?_
  cases hl : look ths k with
  | none =>
    have e : lookV ths k = none := by simp [lookV, hl]
    rw [e]
    refine go ?_
    refine WT_ret (rs := [.tmp 4, .tmp 5]) Try.func69 rfl rfl ⟨by simp only [findV, hl]; rfl, rfl⟩
  | some x =>
    have e : lookV ths k = some (.pointer (some ⟨x.1, 0, none⟩)) := by simp [lookV, hl]
    rw [e]
    refine go ?_
    refine WT_ret (rs := [.tmp 4, .tmp 5]) Try.func69 rfl rfl ⟨by simp only [findV, hl]; rfl, rfl⟩

/-- The address of a slot. -/
def cellAddr (X : Th) (s : Nat) : Nat := if X.blocks.length > 1 then X.blocks.getD (1 + s / 8) 0 + s % 8 else X.blocks.getD 0 0 + 1 + s
theorem thingCell {t : Nat} {X : Th} {s : Nat} (h1 : 0 < X.blocks.length) (h2 : X.blocks.length > 1 → 1 + s / 8 < X.blocks.length) (hs : s ≤ 100) (hb : ∀ a ∈ X.blocks, a ≤ 1000) (hlen : X.blocks.length ≤ 1000) :
    C Try.prog 46 [.pointer (some ⟨t, 0, none⟩), .int .i64 (s : Int)] [thingA t X] (fun v L' => v = .int .i64 (cellAddr X s : Int) ∧ L' = [thingA t X]) := by
  refine C_enter2 Try.func46 rfl rfl rfl fun β F => ?_
  refine st_thing .here fun rv bb c sp hc hsp => ?_
  have at_ : ∀ i, i < X.blocks.length → (X.blocks.map encN ++ sp)[0 + i * 1]? = some (.int .i64 (X.blocks.getD i 0 : Int)) := by
    intro i hi
    rw [Nat.zero_add, Nat.mul_one, List.getElem?_append_left (by simpa using hi)]
    simp [hi]
  have bd : ∀ i, X.blocks.getD i 0 ≤ 1000 := by
    intro i
    rcases Nat.lt_or_ge i X.blocks.length with h | h
    · have := hb X.blocks[i] (List.getElem_mem h); simp [h]; exact this
    · simp [h]
  by_cases hm : X.blocks.length > 1
  · have a1 := at_ (1 + s / 8) (h2 hm)
    have b1 := bd (1 + s / 8)
    have hm' : (1 : Int) < (X.blocks.length : Int) := by omega
    have hlt := h2 hm
    refine go ?_
    refine st_toThing (X := X) (.cons .here (.cons .here (.cons .here .nil))) hc hsp ?_
    refine WT_ret (rs := [.tmp 4]) Try.func46 rfl rfl ⟨by rw [cellAddr, if_pos hm]; rfl, rfl⟩
  · have a1 := at_ 0 h1
    have b1 := bd 0
    have hm' : ¬ (1 : Int) < (X.blocks.length : Int) := by omega
    refine go ?_
    refine st_toThing (X := X) (.cons .here (.cons .here (.cons .here .nil))) hc hsp ?_
    refine WT_ret (rs := [.tmp 4]) Try.func46 rfl rfl ⟨by rw [cellAddr, if_neg hm]; rfl, rfl⟩
end Go.Proofs.Ytkknhcdjdcpfcaa
