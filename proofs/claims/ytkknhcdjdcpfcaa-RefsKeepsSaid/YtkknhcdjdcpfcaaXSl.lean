/- The rules by which the walks step: memory in parts, operations, loops, calls. -/
import Derived.Calls
import Derived.Deep.Quiet
import Derived.StillTail
import Derived.Laws.Sem
import Derived.Laws.Cells
import Derived.Laws.Rows
import Derived.Laws.Entries
import Derived.IntWalk
import Derived.KernelRfl
namespace Go.Sl
set_option linter.all false

/-! ### Parts of the heap -/
abbrev Hp := Nat → Option Obj
abbrev SP := Hp → Prop
def dis (h k : Hp) : Prop := ∀ b, h b = none ∨ k b = none
def un (h k : Hp) : Hp := fun b => match h b with | some o => some o | none => k b
def nil : Hp := fun _ => Option.none
def star (A B : SP) : SP := fun h => ∃ h1 h2, dis h1 h2 ∧ h = un h1 h2 ∧ A h1 ∧ B h2
def blk (b : Nat) (o : Obj) : SP := fun h => h b = some o
def sep : List SP → SP
  | [] => fun _ => True
  | A :: L => star A (sep L)
def le (h k : Hp) : Prop := ∀ b o, h b = some o → k b = some o

theorem dis_comm {h k : Hp} (d : dis h k) : dis k h := fun b => (d b).symm
theorem un_comm {h k : Hp} (d : dis h k) : un h k = un k h := by
  funext b
  rcases d b with e | e <;> simp only [un, e]
  · cases k b <;> rfl
  · cases h b <;> rfl
theorem un_assoc (a b c : Hp) : un (un a b) c = un a (un b c) := by
  funext x; simp only [un]; cases a x <;> simp
theorem dis_un {a b c : Hp} : dis a (un b c) ↔ dis a b ∧ dis a c := by
  constructor
  · intro d
    refine ⟨fun x => ?_, fun x => ?_⟩
    · rcases d x with e | e
      · exact .inl e
      · simp only [un] at e; cases hb : b x with
        | none => exact .inr rfl
        | some o => simp [hb] at e
    · rcases d x with e | e
      · exact .inl e
      · simp only [un] at e; cases hb : b x with
        | none => simp [hb] at e; exact .inr e
        | some o => simp [hb] at e
  · rintro ⟨d1, d2⟩ x
    rcases d1 x with e | e
    · exact .inl e
    · rcases d2 x with f | f
      · exact .inl f
      · right; simp [un, e, f]
theorem un_dis {a b c : Hp} : dis (un b c) a ↔ dis b a ∧ dis c a :=
  ⟨fun d => let ⟨x, y⟩ := dis_un.1 (dis_comm d); ⟨dis_comm x, dis_comm y⟩, fun ⟨x, y⟩ => dis_comm (dis_un.2 ⟨dis_comm x, dis_comm y⟩)⟩

theorem star_mono {A B A' B' : SP} (ha : ∀ h, A h → A' h) (hb : ∀ h, B h → B' h) {h : Hp} (s : star A B h) : star A' B' h :=
  let ⟨h1, h2, d, e, x, y⟩ := s; ⟨h1, h2, d, e, ha _ x, hb _ y⟩
theorem star_comm {A B : SP} {h : Hp} (s : star A B h) : star B A h :=
  let ⟨h1, h2, d, e, x, y⟩ := s; ⟨h2, h1, dis_comm d, e.trans (un_comm d), y, x⟩
theorem star_assoc {A B C : SP} {h : Hp} (s : star (star A B) C h) : star A (star B C) h := by
  obtain ⟨h12, h3, d, e, ⟨h1, h2, d', e', a, b⟩, c⟩ := s
  subst e'
  obtain ⟨d13, d23⟩ := un_dis.1 d
  exact ⟨h1, un h2 h3, dis_un.2 ⟨d', d13⟩, e.trans (un_assoc _ _ _), a, h2, h3, d23, rfl, b, c⟩
theorem star_assoc' {A B C : SP} {h : Hp} (s : star A (star B C) h) : star (star A B) C h :=
  star_comm (star_mono (fun _ x => x) (fun _ => star_comm) (star_assoc (star_comm (star_mono (fun _ x => x) (fun _ => star_comm) s))))
theorem star_left {A B C : SP} {h : Hp} (s : star A (star B C) h) : star B (star A C) h :=
  star_assoc (star_mono (fun _ => star_comm) (fun _ x => x) (star_assoc' s))
theorem star_true {A : SP} {h : Hp} (s : A h) : star A (fun _ => True) h :=
  ⟨h, Sl.nil, fun _ => .inr rfl, by funext b; simp only [un, Sl.nil]; cases h b <;> rfl, s, trivial⟩

theorem sep_up : ∀ {L : List SP} {h k : Hp}, le h k → sep L h → sep L k
  | [], _, _, _, _ => trivial
  | A :: L, h, k, hk, s => by
    obtain ⟨h1, h2, d, e, x, y⟩ := s
    have h1k : le h1 k := fun b o hb => hk b o (by rw [e]; simp [un, hb])
    refine ⟨h1, fun b => match h1 b with | some _ => Option.none | none => k b, fun b => ?_, ?_, x, sep_up (fun b o hb => ?_) y⟩
    · cases hb : h1 b with
      | none => exact .inl rfl
      | some o => exact .inr (by simp [hb])
    · funext b
      simp only [un]
      cases hb : h1 b with
      | none => simp [hb]
      | some o => simp only []; exact h1k b o hb
    · rcases d b with f | f
      · simp only [f]; exact hk b o (by rw [e]; simp [un, f, hb])
      · rw [f] at hb; cases hb
theorem sep_perm {L M : List SP} (p : L.Perm M) : ∀ {h : Hp}, sep L h → sep M h := by
  induction p with
  | nil => intro h s; exact s
  | cons A _ ih => intro h s; exact star_mono (fun _ x => x) (fun _ => ih) s
  | swap A B L => intro h s; exact star_left s
  | trans _ _ ih1 ih2 => intro h s; exact ih2 (ih1 s)
theorem sep_append : ∀ {L M : List SP} {h : Hp}, sep (L ++ M) h → star (sep L) (sep M) h
  | [], M, h, s => star_comm (star_true s)
  | A :: L, M, h, s => star_assoc' (star_mono (fun _ x => x) (fun _ => sep_append) s)
theorem star_drop {A : SP} {M : List SP} {h : Hp} (s : star A (sep M) h) : sep M h := by
  obtain ⟨h1, h2, d, e, x, y⟩ := s
  exact sep_up (fun b o hb => by rw [e, un_comm d]; simp [un, hb]) y
theorem append_sep : ∀ {L M : List SP} {h : Hp}, star (sep L) (sep M) h → sep (L ++ M) h
  | [], M, h, s => star_drop s
  | A :: L, M, h, s => star_mono (fun _ x => x) (fun _ => append_sep) (star_assoc s)
theorem sep_weak {L M : List SP} {h : Hp} (s : sep (L ++ M) h) : sep M h := star_drop (sep_append s)
theorem sep_weak' {L M : List SP} {h : Hp} (s : sep (L ++ M) h) : sep L h := sep_weak (sep_perm List.perm_append_comm s)
/-- What is at the head is laid open. -/
theorem sep_open {A : SP} {As L : List SP} {h : Hp} (f : ∀ h, A h → sep As h) (s : sep (A :: L) h) : sep (As ++ L) h :=
  append_sep (star_mono f (fun _ x => x) s)
/-- .. and folded. -/
theorem sep_fold {A : SP} {As L : List SP} {h : Hp} (f : ∀ h, sep As h → A h) (s : sep (As ++ L) h) : sep (A :: L) h :=
  star_mono f (fun _ x => x) (sep_append s)
theorem sep_map {A B : SP} {L : List SP} {h : Hp} (f : ∀ h, A h → B h) (s : sep (A :: L) h) : sep (B :: L) h := star_mono f (fun _ x => x) s
theorem sep_ex {α : Type} {A : α → SP} {L : List SP} {h : Hp} (s : sep ((fun h => ∃ x, A x h) :: L) h) : ∃ x, sep (A x :: L) h :=
  let ⟨h1, h2, d, e, ⟨x, a⟩, y⟩ := s; ⟨x, h1, h2, d, e, a, y⟩
theorem sep_ex' {α : Type} {A : α → SP} {L : List SP} {h : Hp} (x : α) (s : sep (A x :: L) h) : sep ((fun h => ∃ x, A x h) :: L) h :=
  star_mono (fun _ a => ⟨x, a⟩) (fun _ x => x) s
theorem sep_pure {p : Prop} {A : SP} {L : List SP} {h : Hp} (s : sep ((fun h => p ∧ A h) :: L) h) : p ∧ sep (A :: L) h :=
  let ⟨h1, h2, d, e, ⟨x, a⟩, y⟩ := s; ⟨x, h1, h2, d, e, a, y⟩
theorem sep_get {b : Nat} {o : Obj} : ∀ {L : List SP} {h : Hp}, blk b o ∈ L → sep L h → h b = some o
  | A :: L, h, hm, s => by
    obtain ⟨h1, h2, d, e, x, y⟩ := s
    rcases List.mem_cons.1 hm with rfl | hm
    · have : h1 b = some o := x
      rw [e]; simp [un, this]
    · have := sep_get hm y
      rw [e, un_comm d]; simp [un, this]
/-- A cell's block is written. -/
theorem sep_set {b : Nat} {o o' : Obj} {L : List SP} {h h' : Hp} (s : sep (blk b o :: L) h) (hb : h' b = some o') (he : ∀ c, c ≠ b → h' c = h c) : sep (blk b o' :: L) h' := by
  obtain ⟨h1, h2, d, e, x, y⟩ := s
  have x' : h1 b = some o := x
  refine ⟨fun c => if c = b then some o' else h1 c, h2, fun c => ?_, ?_, ?_, y⟩
  · by_cases hc : c = b
    · right; subst hc; rcases d c with f | f
      · rw [x'] at f; cases f
      · exact f
    · simpa [hc] using d c
  · funext c
    by_cases hc : c = b
    · subst hc; simp [un, hb]
    · rw [he c hc, e]; simp [un, hc]
  · simp [blk]
/-- A new block. -/
theorem sep_new {b : Nat} {o : Obj} {L : List SP} {h h' : Hp} (s : sep L h) (hn : h b = Option.none) (hb : h' b = some o) (he : ∀ c, c ≠ b → h' c = h c) : sep (blk b o :: L) h' := by
  refine ⟨fun c => if c = b then some o else Option.none, h, fun c => ?_, ?_, by simp [blk], s⟩
  · by_cases hc : c = b
    · right; rw [hc]; exact hn
    · left; simp [hc]
  · funext c
    by_cases hc : c = b
    · subst hc; simp [un, hb]
    · rw [he c hc]; simp [un, hc]

/-! ### Worlds -/
def hp (w : World) : Hp := fun b => w.heap[b]?
structure Bs where
  N : Nat
  os : Os
  tape : Nat → Question → Nat
  output : Array (Nat × ByteArray)
structure Ok (β : Bs) (F : SP) (L : List SP) (w : World) : Prop where
  os : w.os = β.os
  tape : w.tape = β.tape
  output : w.output = β.output
  size : β.N ≤ w.heap.size
  free : ∀ b c e fr, β.N ≤ b → w.heap[b]? = some (.cells c e fr) → fr = (0, 0)
  heap : sep (F :: L) (hp w)

theorem Ok.map {β : Bs} {F : SP} {L M : List SP} {w : World} (k : Ok β F L w) (f : ∀ h, sep L h → sep M h) : Ok β F M w :=
  ⟨k.os, k.tape, k.output, k.size, k.free, star_mono (fun _ x => x) f k.heap⟩
theorem Ok.perm {β : Bs} {F : SP} {L M : List SP} {w : World} (k : Ok β F L w) (p : L.Perm M) : Ok β F M w := k.map fun _ => sep_perm p
theorem Ok.get {β : Bs} {F : SP} {L : List SP} {w : World} {b : Nat} {o : Obj} (k : Ok β F L w) (h : blk b o ∈ L) : w.heap[b]? = some o :=
  sep_get (List.mem_cons_of_mem _ h) k.heap
theorem Ok.drawn {β : Bs} {F : SP} {L : List SP} {w : World} (k : Ok β F L w) (n : Nat) : Ok β F L { w with drawn := n } :=
  ⟨k.os, k.tape, k.output, k.size, k.free, k.heap⟩
/-- What is framed is taken into the frame. -/
theorem Ok.frame {β : Bs} {F : SP} {L M : List SP} {w : World} (k : Ok β F (L ++ M) w) : Ok β (star F (sep M)) L w :=
  ⟨k.os, k.tape, k.output, k.size, k.free, by
    have := k.heap
    have h2 : star F (star (sep M) (sep L)) (hp w) := star_mono (fun _ x => x) (fun _ s => star_comm (sep_append s)) this
    exact star_assoc' h2⟩
theorem Ok.unframe {β : Bs} {F : SP} {L M : List SP} {w : World} (k : Ok β (star F (sep M)) L w) : Ok β F (L ++ M) w :=
  ⟨k.os, k.tape, k.output, k.size, k.free, star_mono (fun _ x => x) (fun _ s => append_sep (star_comm s)) (star_assoc k.heap)⟩
theorem Ok.set {β : Bs} {F : SP} {L : List SP} {w w' : World} {b : Nat} {o o' : Obj} (k : Ok β F (blk b o :: L) w)
    (hw : w' = { w with heap := w'.heap }) (hs : w'.heap.size = w.heap.size) (hb : w'.heap[b]? = some o') (he : ∀ c, c ≠ b → w'.heap[c]? = w.heap[c]?)
    (hf : ∀ c e fr, β.N ≤ b → o' = .cells c e fr → fr = (0, 0)) : Ok β F (blk b o' :: L) w' := by
  refine ⟨by rw [hw]; exact k.os, by rw [hw]; exact k.tape, by rw [hw]; exact k.output, by rw [hs]; exact k.size, ?_, ?_⟩
  · intro c cs e fr hN hc
    by_cases h : c = b
    · subst h; rw [hb] at hc; exact hf cs e fr hN (Option.some.inj hc)
    · rw [he c h] at hc; exact k.free c cs e fr hN hc
  · have h1 : sep (blk b o :: F :: L) (hp w) := star_left k.heap
    exact star_left (sep_set (h' := hp w') h1 hb he)
theorem Ok.new {β : Bs} {F : SP} {L : List SP} {w : World} {o : Obj} (k : Ok β F L w) (hf : ∀ c e fr, o = .cells c e fr → fr = (0, 0)) :
    Ok β F (blk w.heap.size o :: L) { w with heap := w.heap.push o } := by
  refine ⟨k.os, k.tape, k.output, by have := k.size; simp; omega, ?_, ?_⟩
  · intro c cs e fr hN hc
    by_cases h : c = w.heap.size
    · subst h; simp at hc; exact hf cs e fr hc
    · exact k.free c cs e fr hN (by simpa [Array.getElem?_push, h] using hc)
  · exact star_left (sep_new (h := hp w) (b := w.heap.size) k.heap (by simp [hp]) (by simp [hp]) (fun c hc => by simp [hp, Array.getElem?_push, hc]))

end Go.Sl
namespace Go.Sl
set_option linter.all false

/-! ### What is known of the temporaries -/
abbrev Env := List (Nat × Value)
def lk : Env → Nat → Option Value
  | [], _ => Option.none
  | (k, v) :: r, t => bif Nat.beq k t then some v else lk r t
def put (E : Env) : Option Tmp → Value → Env
  | some d, v => (d, v) :: E
  | Option.none, _ => E
def ev (E : Env) : Operand → Option Value
  | .tmp t => lk E t
  | .const v => some v
  | .global g => some (.pointer (some ⟨g, 0, Option.none⟩))
  | .func f => some (.func (.func f) #[] #[])
def evs (E : Env) : List Operand → Option (List Value)
  | [] => some []
  | x :: r => match ev E x, evs E r with
    | some v, some vs => some (v :: vs)
    | _, _ => Option.none
structure EnvOk (n : Nat) (E : Env) (a : Act) : Prop where
  size : a.tmps.size = n
  defers : a.defers = []
  get : ∀ t v, lk E t = some v → a.tmps[t]? = some v
def dstOk (n : Nat) : Option Tmp → Bool
  | some d => Nat.blt d n
  | Option.none => true
theorem EnvOk.ev {n : Nat} {E : Env} {a : Act} (k : EnvOk n E a) {x : Operand} {v : Value} (h : ev E x = some v) : a.eval x = v := by
  cases x with
  | tmp t => have := k.get t v h; simp [Act.eval, this]
  | const u => simpa [Sl.ev, Act.eval] using h
  | global g => simpa [Sl.ev, Act.eval] using h
  | func f => simpa [Sl.ev, Act.eval] using h
theorem EnvOk.evs {n : Nat} {E : Env} {a : Act} (k : EnvOk n E a) : ∀ {xs : List Operand} {vs : List Value}, evs E xs = some vs → xs.map a.eval = vs
  | [], vs, h => by simpa [Sl.evs] using h
  | x :: r, vs, h => by
    simp only [Sl.evs] at h
    split at h
    · rename_i v us h1 h2
      simp at h; subst h
      simp [k.ev h1, k.evs h2]
    · cases h
theorem EnvOk.put {n : Nat} {E : Env} {a : Act} (k : EnvOk n E a) {d : Option Tmp} (hd : dstOk n d = true) (v : Value) : EnvOk n (put E d v) (a.put d v) := by
  cases d with
  | none => exact k
  | some d =>
    have hd' : d < n := by simpa [dstOk, Nat.blt_eq] using hd
    refine ⟨by simp [Act.put, k.size], k.defers, fun t u h => ?_⟩
    simp only [Sl.put, lk] at h
    by_cases e : d = t
    · subst e
      have : Nat.beq d d = true := Nat.beq_refl d
      simp only [this, cond_true, Option.some.injEq] at h
      subst h
      simp [Act.put, k.size, hd']
    · have : Nat.beq d t = false := by rw [Bool.eq_false_iff]; intro h; exact e (Nat.eq_of_beq_eq_true h)
      simp only [this, cond_false] at h
      simpa [Act.put, Array.getElem?_setIfInBounds_ne e] using k.get t u h
theorem EnvOk.weak {n : Nat} {E E' : Env} {a : Act} (k : EnvOk n E a) (h : ∀ t v, lk E' t = some v → lk E t = some v) : EnvOk n E' a := ⟨k.size, k.defers, fun t v e => k.get t v (h t v e)⟩
/-- Only these are kept. -/
def keep (E : Env) : List Nat → Env
  | [] => []
  | t :: r => match lk E t with
    | some v => (t, v) :: keep E r
    | Option.none => keep E r
theorem keep_lk (E : Env) : ∀ (l : List Nat) t v, lk (keep E l) t = some v → lk E t = some v
  | [], _, _, h => by cases h
  | s :: r, t, v, h => by
    simp only [keep] at h
    split at h
    · rename_i u hu
      simp only [lk] at h
      by_cases e : s = t
      · subst e
        have : Nat.beq s s = true := Nat.beq_refl s
        simp only [this, cond_true] at h
        rw [hu]; exact h
      · have : Nat.beq s t = false := by rw [Bool.eq_false_iff]; intro h; exact e (Nat.eq_of_beq_eq_true h)
        simp only [this, cond_false] at h
        exact keep_lk E r t v h
    · exact keep_lk E r t v h

/-! ### States -/
abbrev St (β : Bs) (F : SP) (L : List SP) (X : World → Prop) : Prop := ∀ w, Ok β F L w → X w

/-- 'A' taken out of 'L' leaves 'M'. -/
inductive Rem (A : SP) : List SP → List SP → Prop
  | here {L : List SP} : Rem A (A :: L) L
  | there {B : SP} {L M : List SP} : Rem A L M → Rem A (B :: L) (B :: M)
theorem Rem.perm {A : SP} {L M : List SP} (r : Rem A L M) : L.Perm (A :: M) := by
  induction r with
  | here => exact .refl _
  | there _ ih => exact (List.Perm.cons _ ih).trans (.swap _ _ _)
theorem Rem.mem {A : SP} {L M : List SP} (r : Rem A L M) : A ∈ L := r.perm.symm.subset (List.mem_cons_self ..)
/-- All of 'As' taken out of 'L' leave 'M'. -/
inductive Rems : List SP → List SP → List SP → Prop
  | nil {L : List SP} : Rems [] L L
  | cons {A : SP} {As L M N : List SP} : Rem A L M → Rems As M N → Rems (A :: As) L N
theorem Rems.perm {As L M : List SP} (r : Rems As L M) : L.Perm (As ++ M) := by
  induction r with
  | nil => exact .refl _
  | cons h _ ih => exact h.perm.trans (.cons _ ih)
theorem rems_app : ∀ (As M : List SP), Rems As (As ++ M) M
  | [], _ => .nil
  | _ :: As, M => .cons .here (rems_app As M)
/-- 'A' in 'L' is replaced. -/
inductive Upd (A A' : SP) : List SP → List SP → Prop
  | here {L : List SP} : Upd A A' (A :: L) (A' :: L)
  | there {B : SP} {L M : List SP} : Upd A A' L M → Upd A A' (B :: L) (B :: M)
theorem Upd.rem {A A' : SP} {L L' : List SP} (r : Upd A A' L L') : ∃ M, L.Perm (A :: M) ∧ (A' :: M).Perm L' := by
  induction r with
  | here => exact ⟨_, .refl _, .refl _⟩
  | there _ ih =>
    obtain ⟨M, h1, h2⟩ := ih
    exact ⟨_, (List.Perm.cons _ h1).trans (.swap _ _ _), (List.Perm.swap _ _ _).trans (.cons _ h2)⟩

section st
variable {β : Bs} {F : SP} {L M : List SP} {X : World → Prop}
theorem st_perm (p : L.Perm M) (k : St β F M X) : St β F L X := fun w h => k w (h.perm p)
theorem st_open {A : SP} {As : List SP} (r : Rem A L M) (f : ∀ h, A h → sep As h) (k : St β F (As ++ M) X) : St β F L X :=
  fun w h => k w ((h.perm r.perm).map fun _ s => sep_open f s)
theorem st_ex {α : Type} {A : SP} {p : α → Prop} {As : α → List SP} (r : Rem A L M) (f : ∀ h, A h → ∃ x, p x ∧ sep (As x) h) (k : ∀ x, p x → St β F (As x ++ M) X) : St β F L X := by
  intro w h
  have h2 := h.perm r.perm
  have h3 : sep (A :: F :: M) (hp w) := star_left h2.heap
  have h4 : sep ((fun h => ∃ x, p x ∧ sep (As x) h) :: F :: M) (hp w) := sep_map f h3
  obtain ⟨x, h5⟩ := sep_ex h4
  obtain ⟨hx, h6⟩ := sep_pure h5
  refine k x hx w ⟨h2.os, h2.tape, h2.output, h2.size, h2.free, ?_⟩
  have h7 : sep (As x ++ F :: M) (hp w) := append_sep (star_mono (fun _ y => y) (fun _ y => y) h6)
  exact sep_perm List.perm_middle h7
theorem st_fold {A : SP} {As : List SP} (r : Rems As L M) (f : ∀ h, sep As h → A h) (k : St β F (A :: M) X) : St β F L X :=
  fun w h => k w ((h.perm r.perm).map fun _ s => sep_fold f s)
theorem st_pick {As : List SP} (r : Rems As L M) (k : St β F As X) : St β F L X :=
  fun w h => k w ((h.perm (r.perm.trans List.perm_append_comm)).map fun _ s => sep_weak s)
theorem st_drop {A : SP} (r : Rem A L M) (k : St β F M X) : St β F L X :=
  fun w h => k w ((h.perm r.perm).map fun _ s => star_drop s)
end st

/-! ### Calls -/
/-- The call hands back what R says, whatever else lies in memory. -/
def C (P : Program) (f : FuncId) (args : List Value) (L : List SP) (R : Value → List SP → Prop) : Prop :=
  ∀ β F w, Ok β F L w → Calls P f args.toArray w fun e w' => ∃ v L', e = .returned v ∧ R v L' ∧ Ok β F L' w'
theorem C.frame {P : Program} {f : FuncId} {args : List Value} {L M : List SP} {R : Value → List SP → Prop} (c : C P f args L R) :
    C P f args (L ++ M) fun v L' => ∃ L'', L' = L'' ++ M ∧ R v L'' := by
  intro β F w h
  refine (c β _ w h.frame).mono ?_
  rintro e w' ⟨v, L', rfl, r, k⟩
  exact ⟨v, L' ++ M, rfl, ⟨L', rfl, r⟩, k.unframe⟩
theorem C.mono {P : Program} {f : FuncId} {args : List Value} {L : List SP} {R R' : Value → List SP → Prop} (c : C P f args L R) (h : ∀ v L', R v L' → R' v L') : C P f args L R' :=
  fun β F w k => (c β F w k).mono fun _ _ ⟨v, L', e, r, o⟩ => ⟨v, L', e, h _ _ r, o⟩
theorem C.pre {P : Program} {f : FuncId} {args : List Value} {L L' : List SP} {R : Value → List SP → Prop} (c : C P f args L' R) (h : ∀ h, sep L h → sep L' h) : C P f args L R :=
  fun β F w k => c β F w (k.map h)

/-! ### Operations -/
class Und (P : Program) (t : TypeId) (d : outParam TypeDesc) : Prop where
  eq : P.underlying t = some d
class Siz (P : Program) (t : TypeId) (n : outParam Nat) : Prop where
  eq : ∀ w, (sizeOf t).run P w = .ok n w
class Zer (P : Program) (t : TypeId) (z : outParam Value) : Prop where
  eq : ∀ w, (zeroValue t).run P w = .ok z w
class Cal (P : Program) (f : FuncId) : Prop where
  eq : ∀ args w, (callFunc f args).run P w = .ok (.enter f args) w
class Wide (P : Program) : Prop where
  eq : P.follows .mixedOrders = true
/-- The field f of the struct type s: its type, its place, its size. -/
class Fld (P : Program) (s : TypeId) (f : Nat) (ft fo sz : outParam Nat) : Prop where
  eq : ∃ fs fd, P.underlying s = some (.struct fs) ∧ fs[f]? = some fd ∧ fd.type = ft ∧ fd.offset = fo ∧ (∀ w, (sizeOf ft).run P w = .ok sz w) ∧ sz ≠ 0
def aggD : TypeDesc → Bool
  | .struct _ | .array _ _ => true
  | _ => false
inductive Places (P : Program) : List Field → List (Nat × Nat) → Prop
  | nil : Places P [] []
  | cons {f : Field} {fs : List Field} {o n : Nat} {pl : List (Nat × Nat)} : f.offset = o → (∀ w, (sizeOf f.type).run P w = .ok n w) → Places P fs pl → Places P (f :: fs) ((o, n) :: pl)
theorem Places.run {P : Program} {w : World} : ∀ {fs : List Field} {pl : List (Nat × Nat)} (acc : Array (Nat × Nat)), Places P fs pl → ∀ {g : Array (Nat × Nat) → Field → Sem (Array (Nat × Nat))},
    (∀ acc f n, (∀ w, (sizeOf f.type).run P w = .ok n w) → (g acc f).run P w = .ok (acc.push (f.offset, n)) w) → (fs.foldlM g acc).run P w = .ok (acc ++ pl.toArray) w
  | [], _, acc, .nil, g, _ => by simp
  | f :: fs, _, acc, .cons h1 h2 h3, g, hg => by
    simp only [List.foldlM_cons, Sem.run_bind, hg acc f _ h2, Result.andThen_ok]
    rw [h3.run _ hg]
    simp [h1]
theorem Places.mapM {P : Program} {w : World} {fs : List Field} {pl : List (Nat × Nat)} (h : Places P fs pl) :
    (fs.toArray.mapM fun f => do pure (f.offset, ← sizeOf f.type) : Sem (Array (Nat × Nat))).run P w = .ok pl.toArray w := by
  rw [Array.mapM_eq_foldlM, ← Array.foldlM_toList]
  have := h.run (w := w) #[] (g := fun acc f => acc.push <$> do pure (f.offset, ← sizeOf f.type)) (fun acc f n hn => by simp [hn])
  simpa using this
/-- The places of the fields of a struct type. -/
class Plc (P : Program) (t : TypeId) (pl : outParam (List (Nat × Nat))) : Prop where
  eq : ∃ fs : List Field, P.underlying t = some (.struct fs.toArray) ∧ Places P fs pl
/-- A type of one cell. -/
class Sca (P : Program) (t : TypeId) : Prop where
  eq : ∃ d, P.underlying t = some d ∧ aggD d = false
/-- A struct or an array. -/
class Agg (P : Program) (t : TypeId) (n : outParam Nat) : Prop where
  eq : (∃ d, P.underlying t = some d ∧ aggD d = true) ∧ ∀ w, (sizeOf t).run P w = .ok n w
theorem Und.run {P : Program} {t : TypeId} {d : TypeDesc} [u : Und P t d] (w : World) : (underlying t).run P w = .ok d w := run_underlying u.eq w
theorem Und.agg {P : Program} {t : TypeId} {d : TypeDesc} [u : Und P t d] (w : World) : (isAgg t).run P w = .ok (aggD d) w := by
  unfold isAgg
  simp only [Sem.run_bind, u.run, Result.andThen_ok]
  cases d <;> rfl

theorem Sca.run {P : Program} {t : TypeId} [u : Sca P t] (w : World) : (isAgg t).run P w = .ok false w := by
  obtain ⟨d, h1, h2⟩ := u.eq
  have := @Und.agg P t d ⟨h1⟩ w
  rwa [h2] at this
theorem Agg.run {P : Program} {t : TypeId} {n : Nat} [u : Agg P t n] (w : World) : (isAgg t).run P w = .ok true w := by
  obtain ⟨⟨d, h1, h2⟩, _⟩ := u.eq
  have := @Und.agg P t d ⟨h1⟩ w
  rwa [h2] at this
theorem Agg.size {P : Program} {t : TypeId} {n : Nat} [u : Agg P t n] (w : World) : (sizeOf t).run P w = .ok n w := u.eq.2 w

def wantedE (ops : Array Oper) (E : Env) (o : Oper) : Option Bool :=
  match o.guard with
  | Option.none => some true
  | some (j, want) => match (ops[j]?).bind (·.dst) with
    | some d => match lk E d with
      | some (.bool b) => some (b == want)
      | some (.tuple _) => some false
      | _ => Option.none
    | Option.none => Option.none
theorem wanted_of {n : Nat} {ops : Array Oper} {E : Env} {o : Oper} {a : Act} (k : EnvOk n E a) {b : Bool} (h : wantedE ops E o = some b) : Region.wanted o (yielded ops a.tmps) = b := by
  unfold wantedE at h
  unfold Region.wanted yielded
  split at h
  · rename_i hg; simp at h; subst h; simp [hg]
  · rename_i j want hg
    simp only [hg]
    split at h
    · rename_i d hd
      split at h
      · rename_i c hc
        simp at h
        simp [hd, k.get d _ hc, ← h]
      · rename_i c hc
        simp at h
        simp [hd, k.get d _ hc, ← h]
      · cases h
    · cases h

/-- What is asked of an operation that only looks: it yields v, and the state stays. -/
structure OpU (P : Program) (β : Bs) (F : SP) (L : List SP) (n : Nat) (E : Env) (o : Oper) (v : Value) : Prop where
  it : ∀ a w, EnvOk n E a → Ok β F L w → Oper.quietUpon P (Ok β F L) w v ((execOp a.eval o).run P w)

/-- A list of operations, then K. -/
def WO (P : Program) (n : Nat) (ops : Array Oper) (l : List Oper) (E : Env) (K : Env → World → Prop) (w : World) : Prop :=
  ∀ (Q : Exit → Act → World → Prop), (∀ E' w' a', K E' w' → EnvOk n E' a' → Q .normal a' w') → ∀ a, EnvOk n E a → wpList P ops Q l a w
/-- Operations whose order is open, and which only look. -/
def WQ (P : Program) (β : Bs) (F : SP) (L : List SP) (n : Nat) (ops : Array Oper) (l : List Oper) (E : Env) (K : Env → Prop) : Prop :=
  ∀ (Q : Act → Prop), (∀ E' a', K E' → EnvOk n E' a' → Q a') → ∀ a, EnvOk n E a → wpQuiet P ops (Ok β F L) Q l a

section ops
variable {P : Program} {β : Bs} {F : SP} {L M : List SP} {n : Nat} {ops : Array Oper} {rest : List Oper} {E : Env} {K : Env → World → Prop} {o : Oper} {v : Value}

theorem WO_nil (k : St β F L (K E)) : St β F L (WO P n ops [] E K) := fun w h _ hQ a ha => hQ E w a (k w h) ha
theorem WO_skip {d : Nat} (hg : wantedE ops E o = some false) (hd : o.dst = some d) (hn : Nat.blt d n = true) (k : St β F L (WO P n ops rest ((d, undef) :: E) K)) : St β F L (WO P n ops (o :: rest) E K) := by
  intro w h Q hQ a ha
  unfold wpList
  rw [wanted_of ha hg]
  simp only [Bool.false_eq_true, if_false]
  rw [hd]
  exact k w h Q hQ _ (ha.put (d := some d) hn _)
theorem WO_run (hg : wantedE ops E o = some true) (hd : dstOk n o.dst = true)
    (r : ∀ a w, EnvOk n E a → Ok β F L w → ∃ w', ((execOp a.eval o).run P w = .ok (.value v) w' ∨ ((execOp a.eval o).run P w = .ok .skip w' ∧ v = undef)) ∧ Ok β F M w')
    (k : St β F M (WO P n ops rest (put E o.dst v) K)) : St β F L (WO P n ops (o :: rest) E K) := by
  intro w h Q hQ a ha
  obtain ⟨w', h1, h2⟩ := r a w ha h
  unfold wpList
  rw [wanted_of ha hg]
  simp only [if_true]
  refine .inl ?_
  unfold Oper.wp
  rcases h1 with h1 | ⟨h1, rfl⟩
  · rw [h1]
    exact k w' h2 Q hQ _ (ha.put hd _)
  · rw [h1]
    exact k w' h2 Q hQ _ (ha.put hd _)
theorem WO_q {d : Nat} (q : OpU P β F L n E o v) (hg : wantedE ops E o = some true) (hd : o.dst = some d) (hn : Nat.blt d n = true) (k : St β F L (WO P n ops rest ((d, v) :: E) K)) :
    St β F L (WO P n ops (o :: rest) E K) := by
  intro w h Q hQ a ha
  have h1 := q.it a w ha h
  unfold wpList
  rw [wanted_of ha hg]
  simp only [if_true]
  refine .inl ?_
  unfold Oper.wp
  generalize (execOp a.eval o).run P w = r at h1
  cases r with
  | halt x w' => exact h1.elim
  | ok y w' =>
    cases y <;> simp only [Oper.quietUpon] at h1
    case value u => obtain ⟨rfl, rfl⟩ := h1; simp only [Oper.upon]; rw [hd]; exact k w' h Q hQ _ (ha.put (d := some d) hn _)
    case skip => obtain ⟨rfl, rfl⟩ := h1; simp only [Oper.upon]; rw [hd]; exact k w' h Q hQ _ (ha.put (d := some d) hn _)
    case enter f args =>
      obtain ⟨rfl, hc⟩ := h1
      simp only [Oper.upon]
      refine hc.mono ?_
      rintro e w'' ⟨rfl, h2⟩
      simp only [hd]
      exact k w'' h2 Q hQ _ (ha.put (d := some d) hn _)
/-- A call: its contract, and what it takes. -/
theorem WO_call {f : FuncId} {xs : List Operand} {ats : Array TypeId} {vs : List Value} {Lc : List SP} {R : Value → List SP → Prop} [c : Cal P f]
    (ho : o.op = .call { callee := .value (.func f), args := xs.toArray, argTypes := ats }) (hv : evs E xs = some vs)
    (hc : C P f vs Lc R) (r : Rems Lc L M) (hg : wantedE ops E o = some true) {d : Nat} (hd : o.dst = some d) (hn : Nat.blt d n = true)
    (k : ∀ v L', R v L' → St β F (L' ++ M) (WO P n ops rest ((d, v) :: E) K)) : St β F L (WO P n ops (o :: rest) E K) := by
  intro w h Q hQ a ha
  have h1 := (hc.frame (M := M)) β F w (h.perm r.perm)
  unfold wpList
  rw [wanted_of ha hg]
  simp only [if_true]
  refine .inl ?_
  unfold Oper.wp
  have e1 : (execOp a.eval o).run P w = .ok (.enter f vs.toArray) w := by
    have e2 := ha.evs hv
    simp only [execOp, ho, resolve, Act.eval, Deferred.ofValue, invoke, Sem.run_bind, Sem.run_pure, Result.andThen_ok]
    simp [e2, c.eq]
  rw [e1]
  simp only [Oper.upon]
  refine h1.mono ?_
  rintro e w' ⟨v, L', rfl, ⟨L'', rfl, hR⟩, h2⟩
  simp only [hd]
  exact k v L'' hR w' h2 Q hQ _ (ha.put (d := some d) hn _)

/-- A call of a function value. -/
theorem WO_callV {f : FuncId} {x : Operand} {xs : List Operand} {ats : Array TypeId} {us vs cs : List Value} {Lc : List SP} {R : Value → List SP → Prop}
    (ho : o.op = .call { callee := .value x, args := xs.toArray, argTypes := ats }) (hx : ev E x = some (.func (.func f) us.toArray cs.toArray)) [c : Cal P f] (hv : evs E xs = some vs)
    (hc : C P f (us ++ vs ++ cs) Lc R) (r : Rems Lc L M) (hg : wantedE ops E o = some true) {d : Nat} (hd : o.dst = some d) (hn : Nat.blt d n = true)
    (k : ∀ v L', R v L' → St β F (L' ++ M) (WO P n ops rest ((d, v) :: E) K)) : St β F L (WO P n ops (o :: rest) E K) := by
  intro w h Q hQ a ha
  have h1 := (hc.frame (M := M)) β F w (h.perm r.perm)
  unfold wpList
  rw [wanted_of ha hg]
  simp only [if_true]
  refine .inl ?_
  unfold Oper.wp
  have e1 : (execOp a.eval o).run P w = .ok (.enter f (us ++ vs ++ cs).toArray) w := by
    have e2 := ha.evs hv
    simp only [execOp, ho, resolve, ha.ev hx, Deferred.ofValue, invoke, Sem.run_bind, Sem.run_pure, Result.andThen_ok]
    have e3 : us.toArray ++ (List.map a.eval xs).toArray ++ cs.toArray = (us ++ vs ++ cs).toArray := by rw [e2]; simp
    simp only [List.map_toArray, e3, c.eq]
  rw [e1]
  simp only [Oper.upon]
  refine h1.mono ?_
  rintro e w' ⟨v, L', rfl, ⟨L'', rfl, hR⟩, h2⟩
  simp only [hd]
  exact k v L'' hR w' h2 Q hQ _ (ha.put (d := some d) hn _)
/-- A call that only looks. -/
theorem q_call {f : FuncId} {xs : List Operand} {ats : Array TypeId} {vs : List Value} {Lc : List SP}
    (ho : o.op = .call { callee := .value (.func f), args := xs.toArray, argTypes := ats }) [c : Cal P f] (hv : evs E xs = some vs)
    (hc : C P f vs Lc (fun v' L' => v' = v ∧ L' = Lc)) (r : Rems Lc L M) : OpU P β F L n E o v := by
  refine ⟨fun a w ha h => ?_⟩
  have h1 := (hc.frame (M := M)) β F w (h.perm r.perm)
  have e1 : (execOp a.eval o).run P w = .ok (.enter f vs.toArray) w := by
    have e2 := ha.evs hv
    simp only [execOp, ho, resolve, Act.eval, Deferred.ofValue, invoke, Sem.run_bind, Sem.run_pure, Result.andThen_ok]
    simp [e2, c.eq]
  rw [e1]
  refine ⟨rfl, h1.mono ?_⟩
  rintro e w' ⟨v', L', rfl, ⟨L'', rfl, rfl, rfl⟩, h2⟩
  exact ⟨rfl, h2.perm r.perm.symm⟩
theorem WQ_nil {K : Env → Prop} (k : K E) : WQ P β F L n ops [] E K := fun _ hQ a ha => hQ E a k ha
theorem WQ_skip {K : Env → Prop} {d : Nat} (hg : wantedE ops E o = some false) (hd : o.dst = some d) (hn : Nat.blt d n = true) (k : WQ P β F L n ops rest ((d, undef) :: E) K) : WQ P β F L n ops (o :: rest) E K := by
  intro Q hQ a ha
  unfold wpQuiet
  rw [wanted_of ha hg]
  simp only [Bool.false_eq_true, if_false]
  rw [hd]
  exact k Q hQ _ (ha.put (d := some d) hn _)
theorem WQ_q {K : Env → Prop} (q : OpU P β F L n E o v) {d : Nat} (hg : wantedE ops E o = some true) (hd : o.dst = some d) (hn : Nat.blt d n = true) (k : WQ P β F L n ops rest ((d, v) :: E) K) :
    WQ P β F L n ops (o :: rest) E K := by
  intro Q hQ a ha
  unfold wpQuiet
  rw [wanted_of ha hg]
  simp only [if_true]
  exact ⟨v, fun w hw => q.it a w ha hw, by rw [hd]; exact k Q hQ _ (ha.put (d := some d) hn _)⟩
end ops

/-! ### Code -/
def Fin (P : Program) (f : FuncId) (β : Bs) (F : SP) (R : Value → List SP → Prop) (cs : List Frame) (m : Machine) : Prop :=
  ∃ v w' fr L', R v L' ∧ Ok β F L' w' ∧ Steps P m (lone fr cs w') ∧ fr.fn = f ∧ fr.leaving P w' (.returned v)
theorem Fin.steps {P : Program} {f : FuncId} {β : Bs} {F : SP} {R : Value → List SP → Prop} {cs : List Frame} {m m' : Machine} (h : Steps P m m') : Fin P f β F R cs m' → Fin P f β F R cs m
  | ⟨v, w', fr, L', r, o, s, e⟩ => ⟨v, w', fr, L', r, o, h.trans s, e⟩
/-- From the list 'k' of what is still to be done the function comes to its end. -/
def WT (P : Program) (f : FuncId) (β : Bs) (F : SP) (n : Nat) (R : Value → List SP → Prop) (k : List Item) (E : Env) (w : World) : Prop :=
  ∀ (b : Frame) cs a, b.fn = f → b.kind = .normal → EnvOk n E a → Fin P f β F R cs (lone (b.at a k) cs w)

section code
variable {P : Program} {f : FuncId} {β : Bs} {F : SP} {L M : List SP} {n : Nat} {R : Value → List SP → Prop} {k : List Item} {E : Env}

theorem WT_step {k' : List Item} (s : ∀ (b : Frame) cs a w, EnvOk n E a → Steps P (lone (b.at a k) cs w) (lone (b.at a k') cs w)) (h : St β F L (WT P f β F n R k' E)) : St β F L (WT P f β F n R k E) :=
  fun w hw b cs a hb hk ha => (h w hw b cs a hb hk ha).steps (s b cs a w ha)
theorem WT_seq {x y : Code} (h : St β F L (WT P f β F n R (.code x :: .code y :: k) E)) : St β F L (WT P f β F n R (.code (.seq x y) :: k) E) := WT_step (fun _ _ _ _ _ => .one step_seq) h
theorem WT_skip (h : St β F L (WT P f β F n R k E)) : St β F L (WT P f β F n R (.code .skip :: k) E) := WT_step (fun _ _ _ _ _ => .one step_skip) h
theorem WT_block {id : Nat} {c : Code} (h : St β F L (WT P f β F n R (.code c :: .inBlock id :: k) E)) : St β F L (WT P f β F n R (.code (.block id c) :: k) E) := WT_step (fun _ _ _ _ _ => .one step_block) h
theorem WT_inBlock {id : Nat} (h : St β F L (WT P f β F n R k E)) : St β F L (WT P f β F n R (.inBlock id :: k) E) := WT_step (fun _ _ _ _ _ => .one step_inBlock) h
theorem WT_exit {id : Nat} {k' : List Item} (e : exitTo id k = some k') (h : St β F L (WT P f β F n R k' E)) : St β F L (WT P f β F n R (.code (.exit id) :: k) E) := WT_step (fun _ _ _ _ _ => .one (step_exit e)) h
theorem WT_true {c : Operand} {x y : Code} (hc : ev E c = some (.bool true)) (h : St β F L (WT P f β F n R (.code x :: k) E)) : St β F L (WT P f β F n R (.code (.cond c x y) :: k) E) :=
  WT_step (fun _ _ _ _ ha => .one (step_cond (t := true) (ha.ev hc))) h
theorem WT_false {c : Operand} {x y : Code} (hc : ev E c = some (.bool false)) (h : St β F L (WT P f β F n R (.code y :: k) E)) : St β F L (WT P f β F n R (.code (.cond c x y) :: k) E) :=
  WT_step (fun _ _ _ _ ha => .one (step_cond (t := false) (ha.ev hc))) h
theorem WT_cond {c : Operand} {x y : Code} {t : Bool} (hc : ev E c = some (.bool t)) (h1 : t = true → St β F L (WT P f β F n R (.code x :: k) E)) (h2 : t = false → St β F L (WT P f β F n R (.code y :: k) E)) :
    St β F L (WT P f β F n R (.code (.cond c x y) :: k) E) := by
  cases t
  · exact WT_false hc (h2 rfl)
  · exact WT_true hc (h1 rfl)
theorem WT_loop {ι : Type} {c : Code} (Ei : ι → Env) (Li : ι → List SP) (m : ι → Nat)
    (round : ∀ i, (∀ j, m j < m i → St β F (Li j) (WT P f β F n R (.inLoop c :: k) (Ei j))) → St β F (Li i) (WT P f β F n R (.code c :: .inLoop c :: k) (Ei i))) (i : ι) :
    St β F (Li i) (WT P f β F n R (.code (.loop c) :: k) (Ei i)) := by
  have key : ∀ d i, m i = d → St β F (Li i) (WT P f β F n R (.code c :: .inLoop c :: k) (Ei i)) := by
    intro d
    induction d using Nat.strongRecOn with
    | _ d ih =>
      intro i hi
      exact round i fun j hj => WT_step (fun _ _ _ _ _ => .one step_inLoop) (ih (m j) (hi ▸ hj) j rfl)
  exact WT_step (fun _ _ _ _ _ => .one step_loop) (key _ i rfl)
/-- A loop that counts up to N. -/
theorem WT_loopN {c : Code} (N : Nat) (p : Nat → Prop) (Ei : Nat → Env) (Li : Nat → List SP)
    (round : ∀ i, i ≤ N → p i → (i + 1 ≤ N → p (i + 1) → St β F (Li (i + 1)) (WT P f β F n R (.inLoop c :: k) (Ei (i + 1)))) → St β F (Li i) (WT P f β F n R (.code c :: .inLoop c :: k) (Ei i))) (i : Nat) (hi : i ≤ N) (hp : p i) :
    St β F (Li i) (WT P f β F n R (.code (.loop c) :: k) (Ei i)) := by
  have key : ∀ d i, N - i = d → i ≤ N → p i → St β F (Li i) (WT P f β F n R (.code c :: .inLoop c :: k) (Ei i)) := by
    intro d
    induction d with
    | zero => exact fun i hd hi hp => round i hi hp fun h => absurd h (by omega)
    | succ d ih => exact fun i hd hi hp => round i hi hp fun h hp' => WT_step (fun _ _ _ _ _ => .one step_inLoop) (ih (i + 1) (by omega) h hp')
  exact WT_step (fun _ _ _ _ _ => .one step_loop) (key _ i rfl hi hp)
theorem WT_keep {E' : Env} (l : List Nat) (e : keep E l = E') (h : St β F L (WT P f β F n R k E')) : St β F L (WT P f β F n R k E) :=
  fun w hw b cs a hb hk ha => h w hw b cs a hb hk (ha.weak (e ▸ keep_lk E l))
/-- What the result slots hold. -/
def resE (E : Env) : List ResultVar → Option (List Value)
  | [] => some []
  | .tmp t :: r => match lk E t, resE E r with
    | some v, some vs => some (v :: vs)
    | _, _ => Option.none
  | .cell _ _ :: _ => Option.none
def resV : List Value → Value
  | [v] => v
  | vs => .tuple vs.toArray
theorem res_map {a : Act} (ha : EnvOk n E a) {w : World} {g : Array Value → ResultVar → Sem (Array Value)} (hg : ∀ acc t v, a.tmps[t]? = some v → (g acc (.tmp t)).run P w = .ok (acc.push v) w) :
    ∀ {l : List ResultVar} {vs : List Value} (acc : Array Value), resE E l = some vs → (l.foldlM g acc).run P w = .ok (acc ++ vs.toArray) w
  | [], vs, acc, h => by simp [resE] at h; subst h; simp
  | .tmp t :: r, vs, acc, h => by
    simp only [resE] at h
    split at h
    · rename_i v us h1 h2
      simp at h; subst h
      simp only [List.foldlM_cons, Sem.run_bind, hg acc t v (ha.get t v h1), Result.andThen_ok]
      rw [res_map ha hg _ h2]
      simp
    · cases h
  | .cell _ _ :: _, _, _, h => by simp [resE] at h
theorem results_run {fn : Func} {a : Act} (ha : EnvOk n E a) {w : World} {vs : List Value} (h : resE E fn.results.toList = some vs) : (results fn a.tmps).run P w = .ok (resV vs) w := by
  unfold results
  rw [Array.mapM_eq_foldlM, ← Array.foldlM_toList]
  simp only [Sem.run_bind, Sem.run_pure]
  rw [res_map (P := P) (w := w) ha (fun acc t v ht => by simp [ht]) #[] h]
  simp only [Array.empty_append, Result.andThen_ok]
  congr 1
  match vs with
  | [] => simp [resV]
  | [v] => simp [resV]
  | v :: u :: r => simp [resV]
theorem WT_ret {fn : Func} {rs : List ResultVar} {vs : List Value} (hf : P.funcs[f]? = some fn) (hrs : fn.results = rs.toArray) (hr : resE E rs = some vs) (h : R (resV vs) L) :
    St β F L (WT P f β F n R (.code .ret :: k) E) := by
  intro w hw b cs a hb hk ha
  exact ⟨_, w, _, L, h, hw, .one step_ret, hb, rfl, ha.defers, hk, fn, by simpa [Frame.at, hb] using hf, by simpa [Frame.at] using results_run ha (by rw [hrs]; simpa using hr)⟩
theorem WT_end {fn : Func} {rs : List ResultVar} {vs : List Value} (hf : P.funcs[f]? = some fn) (hrs : fn.results = rs.toArray) (hr : resE E rs = some vs) (h : R (resV vs) L) :
    St β F L (WT P f β F n R [] E) := by
  intro w hw b cs a hb hk ha
  exact ⟨_, w, _, L, h, hw, .one step_end, hb, rfl, ha.defers, hk, fn, by simpa [Frame.at, hb] using hf, by simpa [Frame.at] using results_run ha (by rw [hrs]; simpa using hr)⟩
theorem WT_region {id : Nat} {l : List Oper} (h : St β F L (WO P n l.toArray l E (WT P f β F n R k))) : St β F L (WT P f β F n R (.code (.region id l.toArray false) :: k) E) := by
  intro w hw b cs a hb hk ha
  obtain ⟨e, a', w', ⟨rfl, E', h1, h2⟩, harr⟩ := wp_region_lit (id := id) (h w hw (fun e a' w' => e = .normal ∧ ∃ E', WT P f β F n R k E' w' ∧ EnvOk n E' a') (fun E' w' a' x y => ⟨rfl, E', x, y⟩) a ha) b k cs
  exact (h1 b cs a' hb hk h2).steps harr
theorem WT_quiet {id : Nat} {l : List Oper} [wd : Wide P] (hB : Region.lexB .any l.toArray = true)
    (h : WQ P β F L n l.toArray l E (fun E' => St β F L (WT P f β F n R k E'))) : St β F L (WT P f β F n R (.code (.region id l.toArray true) :: k) E) := by
  intro w hw b cs a hb hk ha
  have h1 := wp_region_quiet (P := P) (ops := l.toArray) (C := Ok β F L) (id := id) (a := a) (w := w) (Q := fun e a' w' => e = .normal ∧ ∃ E', WT P f β F n R k E' w' ∧ EnvOk n E' a') wd.eq hB (hw.drawn _)
    (h _ (fun E' a' hk' ha' w' hw' => ⟨rfl, E', hk' w' hw', ha'⟩) a ha)
  obtain ⟨e, a', w', ⟨rfl, E', h2, h3⟩, harr⟩ := h1 b k cs
  exact (h2 b cs a' hb hk h3).steps harr
/-- A function is entered. -/
def args0 : Nat → List Value → Env
  | _, [] => []
  | i, v :: r => (i, v) :: args0 (i + 1) r
theorem args0_lk : ∀ (vs : List Value) (i t : Nat) (v : Value), lk (args0 i vs) t = some v → i ≤ t ∧ vs[t - i]? = some v
  | [], _, _, _, h => by cases h
  | u :: r, i, t, v, h => by
    simp only [args0, lk] at h
    by_cases e : i = t
    · subst e
      have : Nat.beq i i = true := Nat.beq_refl i
      simp only [this, cond_true] at h
      simpa using h
    · have : Nat.beq i t = false := by rw [Bool.eq_false_iff]; intro h; exact e (Nat.eq_of_beq_eq_true h)
      simp only [this, cond_false] at h
      obtain ⟨h1, h2⟩ := args0_lk r (i + 1) t v h
      refine ⟨by omega, ?_⟩
      rw [show t - i = (t - (i + 1)) + 1 by omega]
      simpa using h2
theorem C_enter {fn : Func} {c : Code} {vs : List Value} (hf : P.funcs[f]? = some fn) (hb : fn.body = some c) (hn : fn.ntmps = n) (hl : vs.length ≤ n)
    (h : ∀ β F, St β F L (WT P f β F n R [.code c] (args0 0 vs))) : C P f vs L R := by
  intro β F w hw cs
  let b : Frame := { (default : Frame) with fn := f, kind := .normal }
  have henter : Frame.enter P f vs.toArray .normal = b.at { tmps := vs.toArray ++ Array.replicate (fn.ntmps - vs.toArray.size) undef, defers := [] } [.code c] := by
    simp [Frame.enter, Frame.at, hf, hb, b]
  obtain ⟨v, w', fr, L', r, o, s, e1, e2⟩ := h β F w hw b cs { tmps := vs.toArray ++ Array.replicate (fn.ntmps - vs.toArray.size) undef, defers := [] } rfl rfl
    ⟨by simp [hn]; omega, rfl, fun t v hv => by
      obtain ⟨_, h2⟩ := args0_lk vs 0 t v hv
      have h3 : t < vs.length := (List.getElem?_eq_some_iff.1 (by simpa using h2)).1
      simpa [Array.getElem?_append, h3] using h2⟩
  exact ⟨.returned v, w', fr, ⟨v, L', rfl, r, o⟩, by rw [henter]; exact s, e1, e2⟩
theorem C_enter0 {fn : Func} {c : Code} (hf : P.funcs[f]? = some fn) (hb : fn.body = some c) (hn : fn.ntmps = n) (hl : Nat.ble 0 n = true) (h : ∀ β F, St β F L (WT P f β F n R [.code c] [])) : C P f [] L R := C_enter hf hb hn (Nat.le_of_ble_eq_true hl) h
theorem C_enter1 {fn : Func} {c : Code} {v0 : Value} (hf : P.funcs[f]? = some fn) (hb : fn.body = some c) (hn : fn.ntmps = n) (hl : Nat.ble 1 n = true) (h : ∀ β F, St β F L (WT P f β F n R [.code c] [(0, v0)])) : C P f [v0] L R := C_enter hf hb hn (Nat.le_of_ble_eq_true hl) h
theorem C_enter2 {fn : Func} {c : Code} {v0 v1 : Value} (hf : P.funcs[f]? = some fn) (hb : fn.body = some c) (hn : fn.ntmps = n) (hl : Nat.ble 2 n = true) (h : ∀ β F, St β F L (WT P f β F n R [.code c] [(0, v0), (1, v1)])) : C P f [v0, v1] L R := C_enter hf hb hn (Nat.le_of_ble_eq_true hl) h
theorem C_enter3 {fn : Func} {c : Code} {v0 v1 v2 : Value} (hf : P.funcs[f]? = some fn) (hb : fn.body = some c) (hn : fn.ntmps = n) (hl : Nat.ble 3 n = true) (h : ∀ β F, St β F L (WT P f β F n R [.code c] [(0, v0), (1, v1), (2, v2)])) : C P f [v0, v1, v2] L R := C_enter hf hb hn (Nat.le_of_ble_eq_true hl) h
theorem C_enter4 {fn : Func} {c : Code} {v0 v1 v2 v3 : Value} (hf : P.funcs[f]? = some fn) (hb : fn.body = some c) (hn : fn.ntmps = n) (hl : Nat.ble 4 n = true) (h : ∀ β F, St β F L (WT P f β F n R [.code c] [(0, v0), (1, v1), (2, v2), (3, v3)])) : C P f [v0, v1, v2, v3] L R := C_enter hf hb hn (Nat.le_of_ble_eq_true hl) h
theorem C_enter5 {fn : Func} {c : Code} {v0 v1 v2 v3 v4 : Value} (hf : P.funcs[f]? = some fn) (hb : fn.body = some c) (hn : fn.ntmps = n) (hl : Nat.ble 5 n = true) (h : ∀ β F, St β F L (WT P f β F n R [.code c] [(0, v0), (1, v1), (2, v2), (3, v3), (4, v4)])) : C P f [v0, v1, v2, v3, v4] L R := C_enter hf hb hn (Nat.le_of_ble_eq_true hl) h
theorem C_enter6 {fn : Func} {c : Code} {v0 v1 v2 v3 v4 v5 : Value} (hf : P.funcs[f]? = some fn) (hb : fn.body = some c) (hn : fn.ntmps = n) (hl : Nat.ble 6 n = true) (h : ∀ β F, St β F L (WT P f β F n R [.code c] [(0, v0), (1, v1), (2, v2), (3, v3), (4, v4), (5, v5)])) : C P f [v0, v1, v2, v3, v4, v5] L R := C_enter hf hb hn (Nat.le_of_ble_eq_true hl) h
end code

end Go.Sl
namespace Go.Sl
set_option linter.all false

section
variable {P : Program} {β : Bs} {F : SP} {L M : List SP} {n : Nat} {E : Env} {o : Oper} {v : Value}

theorem OpU.val (h : ∀ a w, EnvOk n E a → Ok β F L w → (execOp a.eval o).run P w = .ok (.value v) w) : OpU P β F L n E o v := by
  refine ⟨fun a w ha hw => ?_⟩
  rw [h a w ha hw]
  exact ⟨rfl, rfl⟩

theorem q_move {x : Operand} (ho : o.op = .move x) (hx : ev E x = some v) : OpU P β F L n E o v :=
  .val fun a w ha hw => by simp only [execOp, ho, ha.ev hx, Sem.run_pure]
theorem q_assign {x : Operand} (ho : o.op = .assign x) (hx : ev E x = some v) : OpU P β F L n E o v :=
  .val fun a w ha hw => by simp only [execOp, ho, ha.ev hx, Sem.run_pure]
theorem q_pick_t {c x y : Operand} (ho : o.op = .pick c x y) (hc : ev E c = some (.bool true)) (hx : ev E x = some v) : OpU P β F L n E o v :=
  .val fun a w ha hw => by simp [execOp, ho, ha.ev hx, ha.ev hc, asBool]
theorem q_pick_f {c x y : Operand} (ho : o.op = .pick c x y) (hc : ev E c = some (.bool false)) (hx : ev E y = some v) : OpU P β F L n E o v :=
  .val fun a w ha hw => by simp [execOp, ho, ha.ev hx, ha.ev hc, asBool]
theorem q_nilCheck {x : Operand} {p : Addr} (ho : o.op = .nilCheck x) (hx : ev E x = some (.pointer (some p))) : OpU P β F L n E o (.pointer (some p)) :=
  .val fun a w ha hw => by simp [execOp, ho, ha.ev hx]
theorem q_not {t : TypeId} {x : Operand} {b : Bool} (ho : o.op = .unOp .not t x) (hx : ev E x = some (.bool b)) : OpU P β F L n E o (.bool !b) :=
  .val fun a w ha hw => by simp [execOp, ho, ha.ev hx, Op.unary]
theorem q_not_t {t : TypeId} {x : Operand} (ho : o.op = .unOp .not t x) (hx : ev E x = some (.bool true)) : OpU P β F L n E o (.bool false) := q_not ho hx
theorem q_not_f {t : TypeId} {x : Operand} (ho : o.op = .unOp .not t x) (hx : ev E x = some (.bool false)) : OpU P β F L n E o (.bool true) := q_not ho hx
theorem q_extract {x : Operand} {i : Nat} {vs : List Value} (ho : o.op = .extract x i) (hx : ev E x = some (.tuple vs.toArray)) (hi : vs[i]? = some v) : OpU P β F L n E o v :=
  .val fun a w ha hw => by simp [execOp, ho, ha.ev hx, Instr.extract, hi]
theorem q_fieldAddr {s : TypeId} {x : Operand} {f ft fo sz : Nat} {b off : Nat} (ho : o.op = .fieldAddr s x f) [q : Fld P s f ft fo sz]
    (hx : ev E x = some (.pointer (some ⟨b, off, none⟩))) : OpU P β F L n E o (.pointer (some ⟨b, off + fo, none⟩)) :=
  .val fun a w ha hw => by
    have e : (Addr.add ⟨b, off, none⟩ fo) = ⟨b, off + fo, none⟩ := by
      unfold Addr.add
      by_cases h : fo = 0 <;> simp [h]
    obtain ⟨fs, fd, h1, h2, h3, h4, h5, hs'⟩ := q.eq
    have z := h5 w
    simp [hs', execOp, ho, ha.ev hx, Instr.fieldAt, run_underlying h1, h2, Instr.sureAddr, fieldPlace, h3, h4, z, e]
theorem add_off (b off k : Nat) : Addr.add ⟨b, off, none⟩ k = ⟨b, off + k, none⟩ := by
  unfold Addr.add
  by_cases h : k = 0 <;> simp [h]
theorem q_indexAddr {t e : TypeId} {x y : Operand} {b off len cap sz k : Nat} {kd : IntKind} {i : Int} (ho : o.op = .indexAddr t x y) [Und P t (.slice e)] [z : Siz P e sz]
    (hx : ev E x = some (.slice (some ⟨b, off, none⟩) len cap)) (hy : ev E y = some (.int kd i)) (hi : i = (k : Int)) (hk : k < len) : OpU P β F L n E o (.pointer (some ⟨b, off + k * sz, none⟩)) :=
  .val fun a w ha hw => by
    subst hi
    have h1 : (0 : Int) ≤ (k : Int) ∧ (k : Int) < (len : Int) := by omega
    simp [execOp, ho, ha.ev hx, ha.ev hy, Instr.indexAt, Und.run, asIntOf, z.eq, add_off, hk]
theorem q_indexAddrArr {t e : TypeId} {x y : Operand} {b off len sz k : Nat} {kd : IntKind} {i : Int} (ho : o.op = .indexAddr t x y) [Und P t (.array len e)] [z : Siz P e sz]
    (hx : ev E x = some (.pointer (some ⟨b, off, none⟩))) (hy : ev E y = some (.int kd i)) (hi : i = (k : Int)) (hk : k < len) : OpU P β F L n E o (.pointer (some ⟨b, off + k * sz, none⟩)) :=
  .val fun a w ha hw => by
    subst hi
    have h1 : (0 : Int) ≤ (k : Int) ∧ (k : Int) < (len : Int) := by omega
    simp [execOp, ho, ha.ev hx, ha.ev hy, Instr.indexAt, Und.run, asIntOf, z.eq, add_off, hk, Instr.sureAddr]
theorem q_field {t : TypeId} {x : Operand} {f ft fo sz : Nat} {cs : List Value} (ho : o.op = .field t x f) [q : Fld P t f ft fo sz] [Sca P ft]
    (hx : ev E x = some (.agg cs.toArray)) (hv : cs[fo]? = some v) : OpU P β F L n E o v :=
  .val fun a w ha hw => by
    obtain ⟨fs, fd, h1, h2, h3, h4, h5, _⟩ := q.eq
    simp [execOp, ho, ha.ev hx, Instr.field, run_underlying h1, h2, h3, h4, asAgg, part, Sca.run, hv]
theorem q_fieldAgg {t : TypeId} {x : Operand} {f ft fo sz sz' : Nat} {cs vs : List Value} (ho : o.op = .field t x f) [q : Fld P t f ft fo sz] [Agg P ft sz']
    (hx : ev E x = some (.agg cs.toArray)) (hv : (cs.drop fo).take sz = vs) : OpU P β F L n E o (.agg vs.toArray) :=
  .val fun a w ha hw => by
    obtain ⟨fs, fd, h1, h2, h3, h4, h5, _⟩ := q.eq
    simp [execOp, ho, ha.ev hx, Instr.field, run_underlying h1, h2, h3, h4, asAgg, part, Agg.run, h5, ← hv, List.extract]
theorem q_index {t e : TypeId} {x y : Operand} {len sz k : Nat} {kd : IntKind} {i : Int} {cs : List Value} (ho : o.op = .index t x y) [Und P t (.array len e)] [z : Siz P e sz] [Sca P e]
    (hx : ev E x = some (.agg cs.toArray)) (hy : ev E y = some (.int kd i)) (hi : i = (k : Int)) (hk : k < len) (hv : cs[k * sz]? = some v) : OpU P β F L n E o v :=
  .val fun a w ha hw => by
    subst hi
    simp [execOp, ho, ha.ev hx, ha.ev hy, Instr.index, Und.run, asIntOf, z.eq, hk, part, Sca.run, hv]
theorem q_load {t : TypeId} {x : Operand} {b off : Nat} {l : List Value} {T : TypeId} {fr : Nat × Nat} (ho : o.op = .load t x) [Sca P t]
    (hx : ev E x = some (.pointer (some ⟨b, off, none⟩))) (hb : blk b (.cells l.toArray T fr) ∈ L) (hv : l[off]? = some v) : OpU P β F L n E o v :=
  .val fun a w ha hw => by
    have h1 := cell_of_row w b off l.toArray T fr (hw.get hb)
    simp [hv] at h1
    simp [execOp, ho, ha.ev hx, Instr.loadAt, Instr.sureAddr, loadVar, Sca.run, h1]
theorem q_loadAgg {t : TypeId} {x : Operand} {b off sz : Nat} {l vs : List Value} {T : TypeId} {fr : Nat × Nat} (ho : o.op = .load t x) [z : Agg P t sz]
    (hx : ev E x = some (.pointer (some ⟨b, off, none⟩))) (hb : blk b (.cells l.toArray T fr) ∈ L) (hv : (l.drop off).take sz = vs) (hl : vs.length = sz) : OpU P β F L n E o (.agg vs.toArray) :=
  .val fun a w ha hw => by
    have h0 := hw.get hb
    have h2 := run_loadCells_list (P := P) (w := w) ⟨b, off, none⟩ vs (fun j v hj => by
      rw [add_off, cell_of_row w b (off + j) l.toArray T fr h0]
      subst hv
      rw [List.getElem?_take] at hj
      split at hj
      · simpa [List.getElem?_drop] using hj
      · cases hj)
    rw [hl] at h2
    simp [execOp, ho, ha.ev hx, Instr.loadAt, Instr.sureAddr, loadVar, Agg.run, Agg.size, h2]
theorem q_build {t : TypeId} {ps : List (Nat × Operand)} {pl : List (Nat × Nat)} {z : Value} {us l : List Value} (ho : o.op = .build t ps.toArray) [q : Plc P t pl] [hz : Zer P t z] (hv : evs E (ps.map (·.2)) = some us)
    (hl : Instr.fill (pl[·]?) z.cells ((ps.map (·.1)).zip us) = some l.toArray) : OpU P β F L n E o (.agg l.toArray) :=
  .val fun a w ha hw => by
    have e1 : (ps.map fun x => (x.1, a.eval x.2)) = (ps.map (·.1)).zip us := by
      rw [← ha.evs hv]
      clear hv hl ho
      induction ps with
      | nil => rfl
      | cons p ps ih => simp [ih]
    obtain ⟨fs, h1, h2⟩ := q.eq
    simp only [execOp, ho, Instr.build, Sem.run_bind, hz.eq, Result.andThen_ok, run_underlying h1, Sem.run_pure, List.map_toArray, e1]
    have h3 := h2.mapM (w := w)
    rw [h3]
    simp [hl]
/-- A bound of a slice expression: k; d where there is none. -/
def bnd (E : Env) (d k : Nat) : Option Operand → Prop
  | none => k = d
  | some x => ev E x = some (.int .i64 (k : Int))
theorem bnd_run {d k y : Nat} {x : Option Operand} {code : BoundsCode} {a : Act} (ha : EnvOk n E a) (h : bnd E d k x) (hy : k ≤ y) (w : World) :
    (match x.map a.eval with | some v => Instr.sliceBound v y code | none => pure d : Sem Nat).run P w = .ok k w := by
  cases x with
  | none => simp only [bnd] at h; subst h; rfl
  | some x =>
    have : (k : Int) ≤ (y : Int) := by omega
    simp [ha.ev h, Instr.sliceBound, asIntOf, hy]
theorem q_sliceArr {t e : TypeId} {x : Operand} {lo hi : Option Operand} {b off N l h sz : Nat} (ho : o.op = .slice t x lo hi none) [Und P t (.array N e)] [z : Siz P e sz]
    (hx : ev E x = some (.pointer (some ⟨b, off, none⟩))) (hl : bnd E 0 l lo) (hh : bnd E N h hi) (h1 : l ≤ h) (h2 : h ≤ N) (h3 : l < N) : OpU P β F L n E o (.slice (some ⟨b, off + l * sz, none⟩) (h - l) (N - l)) :=
  .val fun a w ha hw => by
    have e1 := bnd_run (P := P) (code := .sliceAlen) ha hh h2 w
    have e2 := bnd_run (P := P) (code := .sliceB) ha hl h1 w
    have hne : ¬ N = l := by omega
    simp only [execOp, ho, ha.ev hx, Instr.sliceAt, Und.run, Sem.run_bind, Result.andThen_ok, Instr.sureAddr, Sem.run_pure, Instr.sliceBounds, Option.map_none]
    cases hi <;> cases lo <;> simp only [Option.map_none, Option.map_some] at e1 e2 ⊢ <;> simp only [Sem.run_bind, Sem.run_pure, Result.andThen_ok, e1, e2, z.eq, hne, if_false, add_off, Option.isSome_none, Bool.false_eq_true] <;>
      (first | (simp only [bnd] at hl hh; subst hl; subst hh; simp [hne, add_off, z.eq]) | (simp only [bnd] at hl; subst hl; simp [hne, add_off, z.eq, e1, e2]) | (simp only [bnd] at hh; subst hh; simp [hne, add_off, z.eq, e1, e2]) | skip)
theorem q_makeFunc {fn : Fn} {xs ys : List Operand} {us vs : List Value} (ho : o.op = .makeFunc fn xs.toArray ys.toArray) (h1 : evs E xs = some us) (h2 : evs E ys = some vs) : OpU P β F L n E o (.func fn us.toArray vs.toArray) :=
  .val fun a w ha hw => by simp [execOp, ho, Instr.makeFunc, ha.evs h1, ha.evs h2]
theorem q_lenSlice {t e : TypeId} {x : Operand} {p : Option Addr} {len cap : Nat} (ho : o.op = .call { callee := .builtin .len, args := #[x], argTypes := #[t] }) [Und P t (.slice e)]
    (hx : ev E x = some (.slice p len cap)) : OpU P β F L n E o (.int .i64 (len : Int)) :=
  .val fun a w ha hw => by simp [execOp, ho, resolve, ha.ev hx, invoke, builtin, Builtin.len_, Und.run, goInt]
theorem q_lenMap {t e e' : TypeId} {x : Operand} {b : Nat} {es : Array MapEntry} {c : Nat} (ho : o.op = .call { callee := .builtin .len, args := #[x], argTypes := #[t] }) [Und P t (.map e e')]
    (hx : ev E x = some (.map (some b))) (hb : blk b (.map es c) ∈ L) : OpU P β F L n E o (.int .i64 (es.size : Int)) :=
  .val fun a w ha hw => by
    have h0 := hw.get hb
    simp [execOp, ho, resolve, ha.ev hx, invoke, builtin, Builtin.len_, Und.run, goInt, getObj, Sem.run, h0]

/-! numbers -/
theorem wrap_in {x : Int} (h : -9223372036854775808 ≤ x ∧ x < 9223372036854775808) : IntKind.i64.wrap x = x := IntWalk.i64_in x ⟨h.1, by omega⟩
theorem q_add {t yt : TypeId} {x y : Operand} {i j : Int} (ho : o.op = .binOp .add t x y yt) (hx : ev E x = some (.int .i64 i)) (hy : ev E y = some (.int .i64 j)) (h : -9223372036854775808 ≤ i + j ∧ i + j < 9223372036854775808) :
    OpU P β F L n E o (.int .i64 (i + j)) :=
  .val fun a w ha hw => by simp [execOp, ho, ha.ev hx, ha.ev hy, eqGuard, binOp, Op.intArith, wrap_in h]
theorem q_inc {t yt : TypeId} {x y : Operand} {i : Nat} (ho : o.op = .binOp .add t x y yt) (hx : ev E x = some (.int .i64 (i : Int))) (hy : ev E y = some (.int .i64 1)) (h : i < 9223372036854775807) :
    OpU P β F L n E o (.int .i64 ((i + 1 : Nat) : Int)) :=
  .val fun a w ha hw => by
    have : -9223372036854775808 ≤ (i : Int) + 1 ∧ (i : Int) + 1 < 9223372036854775808 := by omega
    simp [execOp, ho, ha.ev hx, ha.ev hy, eqGuard, binOp, Op.intArith, wrap_in this]
theorem q_addW {t yt : TypeId} {x y : Operand} {i j : Int} (ho : o.op = .binOp .add t x y yt) (hx : ev E x = some (.int .i64 i)) (hy : ev E y = some (.int .i64 j)) :
    OpU P β F L n E o (.int .i64 (IntKind.i64.wrap (i + j))) :=
  .val fun a w ha hw => by simp [execOp, ho, ha.ev hx, ha.ev hy, eqGuard, binOp, Op.intArith]
theorem q_addN {t yt : TypeId} {x y : Operand} {i j : Int} {a b : Nat} (ho : o.op = .binOp .add t x y yt) (hx : ev E x = some (.int .i64 i)) (hy : ev E y = some (.int .i64 j)) (hi : i = (a : Int)) (hj : j = (b : Int)) (h : a + b < 9223372036854775808) :
    OpU P β F L n E o (.int .i64 ((a + b : Nat) : Int)) := by
  subst hi hj
  have := q_add (P := P) (β := β) (F := F) (L := L) (n := n) ho hx hy ⟨by omega, by omega⟩
  rwa [← Int.natCast_add] at this
theorem q_sub {t yt : TypeId} {x y : Operand} {i j : Int} (ho : o.op = .binOp .sub t x y yt) (hx : ev E x = some (.int .i64 i)) (hy : ev E y = some (.int .i64 j)) (h : -9223372036854775808 ≤ i - j ∧ i - j < 9223372036854775808) :
    OpU P β F L n E o (.int .i64 (i - j)) :=
  .val fun a w ha hw => by simp [execOp, ho, ha.ev hx, ha.ev hy, eqGuard, binOp, Op.intArith, wrap_in h]
theorem q_mul {t yt : TypeId} {x y : Operand} {i j : Int} (ho : o.op = .binOp .mul t x y yt) (hx : ev E x = some (.int .i64 i)) (hy : ev E y = some (.int .i64 j)) (h : -9223372036854775808 ≤ i * j ∧ i * j < 9223372036854775808) :
    OpU P β F L n E o (.int .i64 (i * j)) :=
  .val fun a w ha hw => by simp [execOp, ho, ha.ev hx, ha.ev hy, eqGuard, binOp, Op.intArith, wrap_in h]
theorem q_quo {t yt : TypeId} {x y : Operand} {i j : Int} (ho : o.op = .binOp .quo t x y yt) (hx : ev E x = some (.int .i64 i)) (hy : ev E y = some (.int .i64 j)) (h0 : 0 ≤ i ∧ i < 9223372036854775808) (h1 : 0 < j) :
    OpU P β F L n E o (.int .i64 (i / j)) :=
  .val fun a w ha hw => by
    have h2 : i.tdiv j = i / j := Int.tdiv_eq_ediv_of_nonneg h0.1
    have h3 : 0 ≤ i / j := Int.ediv_nonneg h0.1 (by omega)
    have h4 : i / j ≤ i := Int.ediv_le_self _ h0.1
    have h5 : j ≠ 0 := by omega
    simp [execOp, ho, ha.ev hx, ha.ev hy, eqGuard, binOp, Op.intDiv, h5, h2, wrap_in (show -9223372036854775808 ≤ i / j ∧ i / j < 9223372036854775808 by omega)]
theorem q_rem {t yt : TypeId} {x y : Operand} {i j : Int} (ho : o.op = .binOp .rem t x y yt) (hx : ev E x = some (.int .i64 i)) (hy : ev E y = some (.int .i64 j)) (h0 : 0 ≤ i) (h1 : 0 < j) :
    OpU P β F L n E o (.int .i64 (i % j)) :=
  .val fun a w ha hw => by
    have h2 : i.tmod j = i % j := Int.tmod_eq_emod_of_nonneg h0
    have h5 : j ≠ 0 := by omega
    simp [execOp, ho, ha.ev hx, ha.ev hy, eqGuard, binOp, Op.intDiv, h5, h2]
theorem q_remT {t yt : TypeId} {x y : Operand} {i j : Int} (ho : o.op = .binOp .rem t x y yt) (hx : ev E x = some (.int .i64 i)) (hy : ev E y = some (.int .i64 j)) (h1 : j ≠ 0) :
    OpU P β F L n E o (.int .i64 (i.tmod j)) :=
  .val fun a w ha hw => by simp [execOp, ho, ha.ev hx, ha.ev hy, eqGuard, binOp, Op.intDiv, h1]
theorem q_shl {t yt : TypeId} {x y : Operand} {i j r : Int} (ho : o.op = .binOp .shl t x y yt) (hx : ev E x = some (.int .i64 i)) (hy : ev E y = some (.int .i64 j)) (h0 : 0 ≤ j) (hr : IntKind.i64.wrap (i * 2 ^ (min j.toNat 64)) = r) :
    OpU P β F L n E o (.int .i64 r) :=
  .val fun a w ha hw => by
    have h5 : ¬ j < 0 := by omega
    simp [execOp, ho, ha.ev hx, ha.ev hy, eqGuard, binOp, Op.shift, h5, IntKind.bits, hr]
theorem q_mulN {t yt : TypeId} {x y : Operand} {i j : Int} {a b : Nat} (ho : o.op = .binOp .mul t x y yt) (hx : ev E x = some (.int .i64 i)) (hy : ev E y = some (.int .i64 j)) (hi : i = (a : Int)) (hj : j = (b : Int)) (h : a * b < 9223372036854775808) :
    OpU P β F L n E o (.int .i64 ((a * b : Nat) : Int)) := by
  subst hi hj
  have e : (a : Int) * (b : Int) = ((a * b : Nat) : Int) := (Int.natCast_mul a b).symm
  have := q_mul (P := P) (β := β) (F := F) (L := L) (n := n) ho hx hy (by rw [e]; omega)
  rwa [e] at this
theorem q_quoN {t yt : TypeId} {x y : Operand} {i j : Int} {a b : Nat} (ho : o.op = .binOp .quo t x y yt) (hx : ev E x = some (.int .i64 i)) (hy : ev E y = some (.int .i64 j)) (hi : i = (a : Int)) (hj : j = (b : Int)) (h : a < 9223372036854775808) (hb : 0 < b) :
    OpU P β F L n E o (.int .i64 ((a / b : Nat) : Int)) := by
  subst hi hj
  have := q_quo (P := P) (β := β) (F := F) (L := L) (n := n) ho hx hy ⟨by omega, by omega⟩ (by omega)
  rwa [← Int.natCast_ediv] at this
theorem q_remN {t yt : TypeId} {x y : Operand} {i j : Int} {a b : Nat} (ho : o.op = .binOp .rem t x y yt) (hx : ev E x = some (.int .i64 i)) (hy : ev E y = some (.int .i64 j)) (hi : i = (a : Int)) (hj : j = (b : Int)) (hb : 0 < b) :
    OpU P β F L n E o (.int .i64 ((a % b : Nat) : Int)) := by
  subst hi hj
  have := q_rem (P := P) (β := β) (F := F) (L := L) (n := n) ho hx hy (by omega) (by omega)
  rwa [← Int.natCast_emod] at this
theorem q_lss {t yt : TypeId} {x y : Operand} {k : IntKind} {i j : Int} (ho : o.op = .binOp .lss t x y yt) (hx : ev E x = some (.int k i)) (hy : ev E y = some (.int k j)) : OpU P β F L n E o (.bool (decide (i < j))) :=
  .val fun a w ha hw => by simp [execOp, ho, ha.ev hx, ha.ev hy, eqGuard, binOp, Op.intCmp]
theorem q_leq {t yt : TypeId} {x y : Operand} {k : IntKind} {i j : Int} (ho : o.op = .binOp .leq t x y yt) (hx : ev E x = some (.int k i)) (hy : ev E y = some (.int k j)) : OpU P β F L n E o (.bool (decide (i ≤ j))) :=
  .val fun a w ha hw => by simp [execOp, ho, ha.ev hx, ha.ev hy, eqGuard, binOp, Op.intCmp]
theorem q_gtr {t yt : TypeId} {x y : Operand} {k : IntKind} {i j : Int} (ho : o.op = .binOp .gtr t x y yt) (hx : ev E x = some (.int k i)) (hy : ev E y = some (.int k j)) : OpU P β F L n E o (.bool (decide (j < i))) :=
  .val fun a w ha hw => by simp [execOp, ho, ha.ev hx, ha.ev hy, eqGuard, binOp, Op.intCmp]
theorem q_geq {t yt : TypeId} {x y : Operand} {k : IntKind} {i j : Int} (ho : o.op = .binOp .geq t x y yt) (hx : ev E x = some (.int k i)) (hy : ev E y = some (.int k j)) : OpU P β F L n E o (.bool (decide (j ≤ i))) :=
  .val fun a w ha hw => by simp [execOp, ho, ha.ev hx, ha.ev hy, eqGuard, binOp, Op.intCmp]
theorem q_eql {t yt : TypeId} {x y : Operand} {k : IntKind} {i j : Int} (ho : o.op = .binOp .eql t x y yt) (hx : ev E x = some (.int k i)) (hy : ev E y = some (.int k j)) : OpU P β F L n E o (.bool (decide (i = j))) :=
  .val fun a w ha hw => by
    have : (i == j) = decide (i = j) := rfl
    simp [execOp, ho, ha.ev hx, ha.ev hy, eqGuard, binOp, Op.intCmp, this]
theorem q_neq {t yt : TypeId} {x y : Operand} {k : IntKind} {i j : Int} (ho : o.op = .binOp .neq t x y yt) (hx : ev E x = some (.int k i)) (hy : ev E y = some (.int k j)) : OpU P β F L n E o (.bool (decide (i ≠ j))) :=
  .val fun a w ha hw => by
    have : (i != j) = decide (i ≠ j) := by by_cases h : i = j <;> simp [h]
    simp [execOp, ho, ha.ev hx, ha.ev hy, eqGuard, binOp, Op.intCmp, this]
theorem dec_t {p : Prop} [Decidable p] (h : p) (q : OpU P β F L n E o (.bool (decide p))) : OpU P β F L n E o (.bool true) := by rwa [decide_eq_true h] at q
theorem dec_f {p : Prop} [Decidable p] (h : ¬ p) (q : OpU P β F L n E o (.bool (decide p))) : OpU P β F L n E o (.bool false) := by rwa [decide_eq_false h] at q
/-! pointers and slices against nil, bools -/
theorem eqIn_ptrNil (d : Nat) {t e : TypeId} {p : Addr} [Und P t (.pointer e)] (w : World) : (Op.equalIn (d + 1) t (.pointer (some p)) (.pointer none)).run P w = .ok false w := by
  simp only [Op.equalIn, Sem.run_bind, Und.run, Result.andThen_ok, Sem.run_pure]
theorem eqIn_nilNil (d : Nat) {t e : TypeId} [Und P t (.pointer e)] (w : World) : (Op.equalIn (d + 1) t (.pointer none) (.pointer none)).run P w = .ok true w := by
  simp only [Op.equalIn, Sem.run_bind, Und.run, Result.andThen_ok, Sem.run_pure, Option.isNone]
theorem eqIn_sliceNil (d : Nat) {t e : TypeId} {p : Option Addr} {k c k' c' : Nat} [Und P t (.slice e)] (w : World) : (Op.equalIn (d + 1) t (.slice p k c) (.slice none k' c')).run P w = .ok p.isNone w := by
  cases p <;> simp only [Op.equalIn, Sem.run_bind, Und.run, Result.andThen_ok, Sem.run_pure, Option.isNone]
theorem eqIn_bool (d : Nat) {t : TypeId} {b c : Bool} [Und P t .bool] (w : World) : (Op.equalIn (d + 1) t (.bool b) (.bool c)).run P w = .ok (b == c) w := by
  simp only [Op.equalIn, Sem.run_bind, Und.run, Result.andThen_ok, Sem.run_pure]
theorem eq_ptrNil {t e : TypeId} {p : Addr} [Und P t (.pointer e)] (w : World) : (Op.equal t (.pointer (some p)) (.pointer none)).run P w = .ok false w := eqIn_ptrNil 9999 w
theorem eq_nilNil {t e : TypeId} [Und P t (.pointer e)] (w : World) : (Op.equal t (.pointer none) (.pointer none)).run P w = .ok true w := eqIn_nilNil 9999 w
theorem eq_sliceNil {t e : TypeId} {p : Option Addr} {k c k' c' : Nat} [Und P t (.slice e)] (w : World) : (Op.equal t (.slice p k c) (.slice none k' c')).run P w = .ok p.isNone w := eqIn_sliceNil 9999 w
theorem eq_bool {t : TypeId} {b c : Bool} [Und P t .bool] (w : World) : (Op.equal t (.bool b) (.bool c)).run P w = .ok (b == c) w := eqIn_bool 9999 w
theorem q_ptrNil {t e yt : TypeId} {x y : Operand} {p : Addr} (ho : o.op = .binOp .eql t x y yt) [Und P t (.pointer e)] (hx : ev E x = some (.pointer (some p))) (hy : ev E y = some (.pointer none)) : OpU P β F L n E o (.bool false) :=
  .val fun a w ha hw => by
    simp only [execOp, ho, ha.ev hx, ha.ev hy, eqGuard, Sem.run_bind, Result.andThen_ok, Sem.run_pure, binOp, eq_ptrNil, Bool.not_false, Bool.not_true]
    try rfl
theorem q_nilNil {t e yt : TypeId} {x y : Operand} (ho : o.op = .binOp .eql t x y yt) [Und P t (.pointer e)] (hx : ev E x = some (.pointer none)) (hy : ev E y = some (.pointer none)) : OpU P β F L n E o (.bool true) :=
  .val fun a w ha hw => by
    simp only [execOp, ho, ha.ev hx, ha.ev hy, eqGuard, Sem.run_bind, Result.andThen_ok, Sem.run_pure, binOp, eq_nilNil, Bool.not_false, Bool.not_true]
    try rfl
theorem q_ptrNilN {t e yt : TypeId} {x y : Operand} {p : Addr} (ho : o.op = .binOp .neq t x y yt) [Und P t (.pointer e)] (hx : ev E x = some (.pointer (some p))) (hy : ev E y = some (.pointer none)) : OpU P β F L n E o (.bool true) :=
  .val fun a w ha hw => by
    simp only [execOp, ho, ha.ev hx, ha.ev hy, eqGuard, Sem.run_bind, Result.andThen_ok, Sem.run_pure, binOp, eq_ptrNil, Bool.not_false, Bool.not_true]
    try rfl
theorem q_nilNilN {t e yt : TypeId} {x y : Operand} (ho : o.op = .binOp .neq t x y yt) [Und P t (.pointer e)] (hx : ev E x = some (.pointer none)) (hy : ev E y = some (.pointer none)) : OpU P β F L n E o (.bool false) :=
  .val fun a w ha hw => by
    simp only [execOp, ho, ha.ev hx, ha.ev hy, eqGuard, Sem.run_bind, Result.andThen_ok, Sem.run_pure, binOp, eq_nilNil, Bool.not_false, Bool.not_true]
    try rfl
theorem q_sliceNil {t e yt : TypeId} {x y : Operand} {p : Option Addr} {k c k' c' : Nat} (ho : o.op = .binOp .eql t x y yt) [Und P t (.slice e)] (hx : ev E x = some (.slice p k c)) (hy : ev E y = some (.slice none k' c')) : OpU P β F L n E o (.bool p.isNone) :=
  .val fun a w ha hw => by
    simp only [execOp, ho, ha.ev hx, ha.ev hy, eqGuard, Sem.run_bind, Result.andThen_ok, Sem.run_pure, binOp, eq_sliceNil, Bool.not_false, Bool.not_true]
    try rfl
theorem q_boolEq {t yt : TypeId} {x y : Operand} {b c : Bool} (ho : o.op = .binOp .eql t x y yt) [Und P t .bool] (hx : ev E x = some (.bool b)) (hy : ev E y = some (.bool c)) : OpU P β F L n E o (.bool (b == c)) :=
  .val fun a w ha hw => by
    simp only [execOp, ho, ha.ev hx, ha.ev hy, eqGuard, Sem.run_bind, Result.andThen_ok, Sem.run_pure, binOp, eq_bool, Bool.not_false, Bool.not_true]
    try rfl
theorem q_boolNe {t yt : TypeId} {x y : Operand} {b c : Bool} (ho : o.op = .binOp .neq t x y yt) [Und P t .bool] (hx : ev E x = some (.bool b)) (hy : ev E y = some (.bool c)) : OpU P β F L n E o (.bool (b != c)) :=
  .val fun a w ha hw => by
    simp only [execOp, ho, ha.ev hx, ha.ev hy, eqGuard, Sem.run_bind, Result.andThen_ok, Sem.run_pure, binOp, eq_bool, Bool.not_false, Bool.not_true]
    try rfl
end
end Go.Sl
namespace Go.Sl
set_option linter.all false

abbrev cel (b : Nat) (l : List Value) (T : TypeId) : SP := blk b (.cells l.toArray T (0, 0))
class TI (P : Program) (t : TypeId) (i : outParam TypeInfo) : Prop where
  eq : ∀ w, (typeInfo t).run P w = .ok i w

/-- 'l' with 'vs' laid over it from place k on. -/
def spl (l : List Value) (k : Nat) : List Value → List Value
  | [] => l
  | v :: vs => spl (l.set k v) (k + 1) vs
theorem spl_length : ∀ (vs l : List Value) (k : Nat), (spl l k vs).length = l.length
  | [], _, _ => rfl
  | v :: vs, l, k => by simp [spl, spl_length vs]
theorem spl_eq : ∀ (vs l : List Value) (k : Nat), k + vs.length ≤ l.length → spl l k vs = l.take k ++ vs ++ l.drop (k + vs.length)
  | [], l, k, h => by simp [spl]
  | v :: vs, l, k, h => by
    simp only [List.length_cons] at h
    rw [spl, spl_eq vs _ _ (by simp; omega)]
    have hk : k < l.length := by omega
    have e1 : (l.set k v).take (k + 1) = l.take k ++ [v] := by
      rw [List.take_set, List.take_succ_eq_append_getElem hk, List.set_append_right _ _ (by simp; omega), List.length_take_of_le (by omega)]
      simp
    rw [e1, List.drop_set_of_lt (by omega)]
    have e2 : min k l.length = k := by omega
    simp [Nat.add_assoc, Nat.add_comm 1, e2]
inductive SetAt (v : Value) : List Value → Nat → List Value → Prop
  | zero {x : Value} {r : List Value} : SetAt v (x :: r) 0 (v :: r)
  | succ {x : Value} {r r' : List Value} {k : Nat} : SetAt v r k r' → SetAt v (x :: r) (k + 1) (x :: r')
theorem SetAt.eq {v : Value} {l l' : List Value} {k : Nat} (h : SetAt v l k l') : l.set k v = l' ∧ k < l.length := by
  induction h with
  | zero => simp
  | succ _ ih => simp [ih.1, ih.2]

theorem run_storeCells_blk {P : Program} {b off : Nat} {T : TypeId} : ∀ (vs : List Value) (i : Nat) (l : List Value) (w : World), w.heap[b]? = some (.cells l.toArray T (0, 0)) → (∀ v ∈ vs, v.oneCell' = true) → off + i + vs.length ≤ l.length →
    ∃ w', (storeCells ⟨b, off, none⟩ vs i).run P w = .ok () w' ∧ w' = { w with heap := w'.heap } ∧ w'.heap.size = w.heap.size ∧ w'.heap[b]? = some (.cells (spl l (off + i) vs).toArray T (0, 0)) ∧ ∀ c, c ≠ b → w'.heap[c]? = w.heap[c]?
  | [], i, l, w, hb, _, _ => ⟨w, rfl, rfl, rfl, hb, fun _ _ => rfl⟩
  | v :: vs, i, l, w, hb, h1, hl => by
    simp only [List.length_cons] at hl
    have hlt : off + i < l.length := by omega
    have hc : w.cell? ⟨b, off + i, none⟩ = some l[off + i] := by
      rw [cell_of_row w b (off + i) l.toArray T (0, 0) hb]; simp [hlt]
    have hf := frozen_of_row w b (off + i) l.toArray T hb
    have hs := heap_setCell_same w b (off + i) l.toArray T v hb
    obtain ⟨w', r, e1, e2, e3, e4⟩ := run_storeCells_blk (P := P) (b := b) (off := off) (T := T) vs (i + 1) (l.set (off + i) v) (w.setCell ⟨b, off + i, none⟩ v) (by simpa using hs) (fun u hu => h1 u (List.mem_cons_of_mem _ hu)) (by rw [List.length_set]; omega)
    refine ⟨w', ?_, by rw [e1]; rfl, by rw [e2]; simp, ?_, fun c hne => by rw [e4 c hne, heap_setCell_other _ _ _ _ hne]⟩
    · simp only [storeCells, Sem.run_bind, add_off, run_store P w _ v _ (h1 v (List.mem_cons_self ..)), hc, hf]
      simpa using r
    · simpa [spl, Nat.add_assoc] using e3

section
variable {P : Program} {β : Bs} {F : SP} {L M : List SP} {n : Nat} {ops : Array Oper} {rest : List Oper} {E : Env} {K : Env → World → Prop} {o : Oper} {v : Value}

theorem WO_new {ob : Obj} {g : Nat → Value} (hg : wantedE ops E o = some true) (hd : dstOk n o.dst = true) (r : ∀ a w, EnvOk n E a → Ok β F L w → (execOp a.eval o).run P w = .ok (.value (g w.heap.size)) { w with heap := w.heap.push ob })
    (hf : ∀ c e fr, ob = .cells c e fr → fr = (0, 0)) (k : ∀ b, St β F (blk b ob :: L) (WO P n ops rest (put E o.dst (g b)) K)) : St β F L (WO P n ops (o :: rest) E K) := by
  intro w h Q hQ a ha
  unfold wpList
  rw [wanted_of ha hg]
  simp only [if_true]
  refine .inl ?_
  unfold Oper.wp
  rw [r a w ha h]
  exact k w.heap.size _ (h.new hf) Q hQ _ (ha.put hd _)
theorem WO_alloc {T : TypeId} {z : Value} {l : List Value} (ho : o.op = .alloc T) [hz : Zer P T z] (hl : z.cells = l.toArray) (hg : wantedE ops E o = some true) {d : Nat} (hd : o.dst = some d) (hnn : Nat.blt d n = true)
    (k : ∀ b, St β F (cel b l T :: L) (WO P n ops rest ((d, (.pointer (some ⟨b, 0, none⟩))) :: E) K)) : St β F L (WO P n ops (o :: rest) E K) :=
  WO_new (g := fun b => .pointer (some ⟨b, 0, none⟩)) (ob := .cells l.toArray T (0, 0)) hg (by rw [hd]; exact hnn) (fun a w ha hw => by simp [execOp, ho, Instr.alloc, hz.eq, newVar, newRow, hl]) (fun c e fr h => by cases h; rfl) (fun b => by rw [hd]; exact k b)
theorem WO_box {T : TypeId} {x : Operand} {u : Value} {l : List Value} (ho : o.op = .box T x) (hx : ev E x = some u) (hl : u.cells = l.toArray) (hg : wantedE ops E o = some true) {d : Nat} (hd : o.dst = some d) (hnn : Nat.blt d n = true)
    (k : ∀ b, St β F (cel b l T :: L) (WO P n ops rest ((d, (.pointer (some ⟨b, 0, none⟩))) :: E) K)) : St β F L (WO P n ops (o :: rest) E K) :=
  WO_new (g := fun b => .pointer (some ⟨b, 0, none⟩)) (ob := .cells l.toArray T (0, 0)) hg (by rw [hd]; exact hnn) (fun a w ha hw => by simp [execOp, ho, Instr.box, ha.ev hx, newVar, newRow, hl]) (fun c e fr h => by cases h; rfl) (fun b => by rw [hd]; exact k b)
theorem WO_makeMap {T : TypeId} (ho : o.op = .makeMap T none) (hg : wantedE ops E o = some true) {d : Nat} (hd : o.dst = some d) (hnn : Nat.blt d n = true)
    (k : ∀ b, St β F (blk b (.map #[] 0) :: L) (WO P n ops rest ((d, (.map (some b))) :: E) K)) : St β F L (WO P n ops (o :: rest) E K) :=
  WO_new (g := fun b => .map (some b)) (ob := .map #[] 0) hg (by rw [hd]; exact hnn) (fun a w ha hw => by simp [execOp, ho, Instr.makeMap]) (fun c e fr h => by cases h) (fun b => by rw [hd]; exact k b)
/-- The block b is written. -/
theorem WO_upd {b : Nat} {o1 o2 : Obj} (hu : Upd (blk b o1) (blk b o2) L M) (hg : wantedE ops E o = some true) (hd : dstOk n o.dst = true)
    (r : ∀ a w, EnvOk n E a → Ok β F L w → w.heap[b]? = some o1 → ∃ w', ((execOp a.eval o).run P w = .ok (.value v) w' ∨ ((execOp a.eval o).run P w = .ok .skip w' ∧ v = undef)) ∧ w' = { w with heap := w'.heap } ∧ w'.heap.size = w.heap.size ∧ w'.heap[b]? = some o2 ∧ ∀ c, c ≠ b → w'.heap[c]? = w.heap[c]?)
    (hf : ∀ c e fr, o2 = .cells c e fr → fr = (0, 0)) (k : St β F M (WO P n ops rest (put E o.dst v) K)) : St β F L (WO P n ops (o :: rest) E K) := by
  obtain ⟨N, p1, p2⟩ := hu.rem
  refine WO_run hg hd (M := M) (v := v) (fun a w ha hw => ?_) k
  have hw' := hw.perm p1
  obtain ⟨w', h1, h2, h3, h4, h5⟩ := r a w ha hw (hw'.get (List.mem_cons_self ..))
  exact ⟨w', h1, (hw'.set h2 h3 h4 h5 (fun c e fr _ => hf c e fr)).perm p2⟩
theorem WO_storeS {T t : TypeId} {x y : Operand} {u : Value} {b off : Nat} {l l' vs : List Value} (ho : o.op = .store t x y) [z : Siz P t vs.length] (hx : ev E x = some (.pointer (some ⟨b, off, none⟩))) (hy : ev E y = some u)
    (hc : u.cells = vs.toArray) (h1 : ∀ v ∈ vs, v.oneCell' = true) (hl : off + vs.length ≤ l.length) (hs : spl l off vs = l') (hu : Upd (cel b l T) (cel b l' T) L M) (hg : wantedE ops E o = some true) (hd : o.dst = none)
    (k : St β F M (WO P n ops rest E K)) : St β F L (WO P n ops (o :: rest) E K) := by
  refine WO_upd (v := undef) hu hg (by rw [hd]; rfl) (fun a w ha hw hb => ?_) (fun c e fr h => by cases h; rfl) (by rw [hd]; exact k)
  obtain ⟨w', r, e1, e2, e3, e4⟩ := run_storeCells_blk (P := P) (off := off) vs 0 l w hb h1 (by simpa using hl)
  refine ⟨w', .inr ⟨?_, rfl⟩, e1, e2, by subst hs; simpa using e3, e4⟩
  simp [execOp, ho, Instr.storeAt, ha.ev hx, ha.ev hy, Instr.sureAddr, storeVar, hc, z.eq, r]
/-- One cell of a block whose cells are written out. -/
theorem WO_store {T t : TypeId} {x y : Operand} {u : Value} {b off : Nat} {l l' : List Value} (ho : o.op = .store t x y) [z : Siz P t 1] (hx : ev E x = some (.pointer (some ⟨b, off, none⟩))) (hy : ev E y = some u)
    (hc : u.cells = #[u]) (h1 : u.oneCell' = true) (hu : Upd (cel b l T) (cel b l' T) L M) (hs : SetAt u l off l') (hg : wantedE ops E o = some true) (hd : o.dst = none)
    (k : St β F M (WO P n ops rest E K)) : St β F L (WO P n ops (o :: rest) E K) :=
  WO_storeS (vs := [u]) (z := z) ho hx hy hc (by simpa using h1) (by have := hs.eq.2; simp; omega) (by simpa [spl] using hs.eq.1) hu hg hd k
/-- A whole block. -/
theorem WO_storeAll {T t : TypeId} {x y : Operand} {b : Nat} {l vs : List Value} (ho : o.op = .store t x y) [z : Siz P t vs.length] (hx : ev E x = some (.pointer (some ⟨b, 0, none⟩))) (hy : ev E y = some (.agg vs.toArray))
    (h1 : ∀ v ∈ vs, v.oneCell' = true) (hl : l.length = vs.length) (hu : Upd (cel b l T) (cel b vs T) L M) (hg : wantedE ops E o = some true) (hd : o.dst = none)
    (k : St β F M (WO P n ops rest E K)) : St β F L (WO P n ops (o :: rest) E K) :=
  WO_storeS (vs := vs) (z := z) ho hx hy rfl h1 (by omega) (by rw [spl_eq _ _ _ (by omega), Nat.zero_add, ← hl]; simp) hu hg hd k
end

section
variable {P : Program} {β : Bs} {F : SP} {L M : List SP} {n : Nat} {ops : Array Oper} {rest : List Oper} {E : Env} {K : Env → World → Prop} {o : Oper} {v : Value}
/-- 'clear' of a part of a block. -/
theorem WO_clear {t e T : TypeId} {x : Operand} {z : Value} {b off m c : Nat} {l l' : List Value} (ho : o.op = .call { callee := .builtin .clear, args := #[x], argTypes := #[t] }) [Und P t (.slice e)] [hz : Zer P e z]
    (hx : ev E x = some (.slice (some ⟨b, off, none⟩) m c)) (hm : 0 < m) (h1 : ∀ v ∈ (Builtin.zeroCells z.cells m).toList, v.oneCell' = true) (hl : off + (Builtin.zeroCells z.cells m).toList.length ≤ l.length) (hs : spl l off (Builtin.zeroCells z.cells m).toList = l')
    (hu : Upd (cel b l T) (cel b l' T) L M) (hg : wantedE ops E o = some true) (hd : o.dst = none)
    (k : St β F M (WO P n ops rest E K)) : St β F L (WO P n ops (o :: rest) E K) := by
  refine WO_upd (v := .tuple #[]) hu hg (by rw [hd]; rfl) (fun a w ha hw hb => ?_) (fun c e fr h => by cases h; rfl) (by rw [hd]; exact k)
  obtain ⟨w', r, e1, e2, e3, e4⟩ := run_storeCells_blk (P := P) (off := off) (Builtin.zeroCells z.cells m).toList 0 l w hb h1 (by simpa using hl)
  refine ⟨w', .inl ?_, e1, e2, by subst hs; simpa using e3, e4⟩
  obtain ⟨m', rfl⟩ : ∃ m', m = m' + 1 := ⟨m - 1, by omega⟩
  simp [execOp, ho, resolve, ha.ev hx, invoke, builtin, Builtin.clear_, Und.run, hz.eq, r]
end

/-! ### Slices that are owned -/
def ownS (T sz : Nat) (v : Value) (l : List Value) : SP := fun h =>
  (v = .slice none 0 0 ∧ l = []) ∨ ∃ b n c sp, v = .slice (some ⟨b, 0, none⟩) n c ∧ l.length = n * sz ∧ sp.length = (c - n) * sz ∧ n ≤ c ∧ h b = some (.cells (l ++ sp).toArray T (0, 0))

theorem growBy_le (need : Nat) : ∀ (r c : Nat), c ≤ 2 * need + 1000 → Builtin.growBy need r c ≤ 2 * need + 1000
  | 0, c, h => h
  | r + 1, c, h => by
    unfold Builtin.growBy
    split
    · exact h
    · exact growBy_le need r _ (by omega)
theorem nextslicecap_le {need cap : Nat} (h : cap < need) : Builtin.nextslicecap need cap ≤ 2 * need + 1000 := by
  unfold Builtin.nextslicecap
  split
  · omega
  · split
    · omega
    · exact growBy_le _ _ _ (by omega)

section
variable {P : Program} {β : Bs} {F : SP} {L M : List SP} {n : Nat} {ops : Array Oper} {rest : List Oper} {E : Env} {K : Env → World → Prop} {o : Oper} {v : Value}

/-- What is appended: cells that can be read. -/
def srcOk (x : Value) (m : Nat) (news : List Value) (h : Hp) : Prop :=
  (∃ c, x = .slice none 0 c ∧ m = 0 ∧ news = []) ∨ ∃ (b off c : Nat) (l : List Value) (T : TypeId) (fr : Nat × Nat), x = .slice (some ⟨b, off, none⟩) m c ∧ h b = some (.cells l.toArray T fr) ∧ (l.drop off).take news.length = news

theorem run_firstCells {w : World} {x : Value} {m sz : Nat} {news : List Value} (hn : news.length = m * sz) (h : srcOk x m news (hp w)) : (Builtin.firstCells sz m x).run P w = .ok news.toArray w := by
  rcases h with ⟨c, rfl, rfl, rfl⟩ | ⟨b, off, c, l, T, fr, rfl, hb, ht⟩
  · simp [Builtin.firstCells]
  · have h2 := run_loadCells_list (P := P) (w := w) ⟨b, off, none⟩ news (fun j v hj => by
      rw [add_off, cell_of_row w b (off + j) l.toArray T fr hb]
      rw [← ht, List.getElem?_take] at hj
      split at hj
      · simpa [List.getElem?_drop] using hj
      · cases hj)
    rw [hn] at h2
    simp [Builtin.firstCells, h2]
theorem lenOf_src {w : World} {x : Value} {m : Nat} {news : List Value} (h : srcOk x m news (hp w)) : (Builtin.lenOf x).run P w = .ok m w := by
  rcases h with ⟨c, rfl, rfl, rfl⟩ | ⟨b, off, c, l, T, fr, rfl, _, _⟩ <;> simp [Builtin.lenOf]

theorem append_fits {ts tx e ex ty : TypeId} {sz m k c b : Nat} {u : Value} {l news sp : List Value} {w : World} [Und P ts (.slice e)] [Und P tx (.slice ex)] [hsz : Siz P e sz]
    (hb : w.heap[b]? = some (.cells (l ++ sp).toArray e (0, 0))) (hl : l.length = k * sz) (hsp : sp.length = (c - k) * sz) (hsrc : srcOk u m news (hp w)) (hn : news.length = m * sz) (h1 : ∀ v ∈ news, v.oneCell' = true) (hc : k + m ≤ c) :
    ∃ w', (Builtin.append_ #[ts, tx] ty #[.slice (some ⟨b, 0, none⟩) k c, u]).run P w = .ok (.slice (some ⟨b, 0, none⟩) (k + m) c) w' ∧ w' = { w with heap := w'.heap } ∧ w'.heap.size = w.heap.size ∧
      w'.heap[b]? = some (.cells ((l ++ news) ++ sp.drop news.length).toArray e (0, 0)) ∧ ∀ d, d ≠ b → w'.heap[d]? = w.heap[d]? := by
  have hlen : k * sz + news.length ≤ (l ++ sp).length := by
    rw [List.length_append, hl, hsp, hn, ← Nat.add_mul, ← Nat.add_mul]
    exact Nat.mul_le_mul_right _ (by omega)
  obtain ⟨w', r, e1, e2, e3, e4⟩ := run_storeCells_blk (P := P) (b := b) (off := k * sz) (T := e) news 0 (l ++ sp) w hb h1 (by simpa using hlen)
  refine ⟨w', ?_, e1, e2, ?_, e4⟩
  · simp [Builtin.append_, Und.run, hsz.eq, lenOf_src hsrc, hc, run_firstCells hn hsrc, add_off, r]
  · rw [e3]
    have : spl (l ++ sp) (k * sz + 0) news = (l ++ news) ++ sp.drop news.length := by
      rw [Nat.add_zero, spl_eq _ _ _ hlen, ← hl, List.take_left', List.drop_append, List.drop_of_length_le (by omega)]
      · simp
      · rfl
    rw [this]

theorem append_grows {ts tx e ex ty : TypeId} {sz m k c : Nat} {p : Option Addr} {u z : Value} {i : TypeInfo} {l news : List Value} {w : World} [Und P ts (.slice e)] [Und P tx (.slice ex)] [hsz : Siz P e sz] [ti : TI P e i] [hz : Zer P e z]
    (hold : srcOk (.slice p k c) k l (hp w)) (hl : l.length = k * sz) (hsrc : srcOk u m news (hp w)) (hn : news.length = m * sz) (hc : c < k + m) (hz1 : z.cells.size = sz)
    (hroom : k + m ≤ 1073741824) (hby : i.bytes ≤ 1024) :
    ∃ N sp, (Builtin.append_ #[ts, tx] ty #[.slice p k c, u]).run P w = .ok (.slice (some ⟨w.heap.size, 0, none⟩) (k + m) N) { w with drawn := w.drawn + 1, heap := w.heap.push (.cells ((l ++ news) ++ sp).toArray e (0, 0)) } ∧
      k + m ≤ N ∧ sp.length = (N - (k + m)) * sz := by
  have hcap := nextslicecap_le hc
  have hb2 : ¬ (2 ^ 48 < Builtin.nextslicecap (k + m) c * i.bytes) := by
    have : Builtin.nextslicecap (k + m) c * i.bytes ≤ (2 * 1073741824 + 1000) * 1024 := Nat.mul_le_mul (by omega) hby
    have e : (2 : Nat) ^ 48 = 281474976710656 := by decide
    omega
  have hbig : ¬ ((k + m : Nat) : Int) > IntKind.i64.max := by rw [IntKind.max_i64]; omega
  have hnc : ¬ (k + m ≤ c) := by omega
  refine ⟨(Question.appendCap (k + m) c e).cut (w.tape w.drawn (.appendCap (k + m) c e)), (Builtin.zeroCells z.cells ((Question.appendCap (k + m) c e).cut (w.tape w.drawn (.appendCap (k + m) c e)) - (k + m))).toList, ?_, ?_, ?_⟩
  · have f1 : (Builtin.firstCells sz k (.slice p k c)).run P { w with drawn := w.drawn + 1 } = .ok l.toArray { w with drawn := w.drawn + 1 } := run_firstCells hl hold
    have f2 : (Builtin.firstCells sz m u).run P { w with drawn := w.drawn + 1 } = .ok news.toArray { w with drawn := w.drawn + 1 } := run_firstCells hn hsrc
    have e0 : ∀ (a b : Sem Value), (if ((k + m : Nat) : Int) > IntKind.i64.max ∧ (false = true ∨ i.bytes = 0) then a else b) = b := fun a b => if_neg fun h => hbig h.1
    simp only [Builtin.append_, Sem.run_bind, Und.run, Result.andThen_ok, Sem.run_pure, hsz.eq, lenOf_src hsrc, ti.eq, hnc]
    have e3 : ¬ ((IntKind.i64.max : Int) < (k : Int) + (m : Int)) := by rw [IntKind.max_i64]; omega
    simp [Und.run, hsz.eq, lenOf_src hsrc, ti.eq, hnc, hb2, hz.eq, newRow, e3, Question.forced, f1, f2, -World.drew_eq, -World.alloc_eq]
    rw [if_neg (fun h => by omega)]
    have e4 : ∀ (A B C : Array Value), A ++ (B ++ C) = (A.toList ++ (B.toList ++ C.toList)).toArray := fun A B C => by simp
    rw [e4]
  · simp only [Question.cut]; omega
  · simp [Builtin.zeroCells, hz1]
end
end Go.Sl
namespace Go.Sl
set_option linter.all false

section
variable {P : Program} {β : Bs} {F : SP} {L M : List SP} {n : Nat} {ops : Array Oper} {rest : List Oper} {E : Env} {K : Env → World → Prop} {o : Oper} {v : Value}

theorem st_own {T sz : Nat} {s : Value} {l : List Value} {X : World → Prop} (r : Rem (ownS T sz s l) L M) (h0 : s = .slice none 0 0 → l = [] → St β F M X)
    (h1 : ∀ b k c sp, s = .slice (some ⟨b, 0, none⟩) k c → l.length = k * sz → sp.length = (c - k) * sz → k ≤ c → St β F (cel b (l ++ sp) T :: M) X) : St β F L X := by
  intro w h
  have h3 : sep (ownS T sz s l :: F :: M) (hp w) := star_left (h.perm r.perm).heap
  obtain ⟨g1, g2, d, e, hh, y⟩ := h3
  rcases hh with ⟨hh, hl⟩ | ⟨b, k, c, sp, q1, q2, q3, q4, q5⟩
  · exact h0 hh hl w ((h.perm r.perm).map fun _ s => star_drop s)
  · exact h1 b k c sp q1 q2 q3 q4 w ⟨h.os, h.tape, h.output, h.size, h.free, star_left (B := F) (A := cel b (l ++ sp) T) ⟨g1, g2, d, e, q5, y⟩⟩
theorem own_mk {T sz b k c : Nat} {l sp : List Value} (hl : l.length = k * sz) (hs : sp.length = (c - k) * sz) (hc : k ≤ c) (h : Hp) (s : sep [cel b (l ++ sp) T] h) : ownS T sz (.slice (some ⟨b, 0, none⟩) k c) l h := by
  have := sep_get (List.mem_cons_self ..) s
  exact .inr ⟨b, k, c, sp, rfl, hl, hs, hc, this⟩
theorem own_nil {T sz : Nat} (h : Hp) : ownS T sz (.slice none 0 0) [] h := .inl ⟨rfl, rfl⟩

theorem WO_append {ts tx e ex : TypeId} {sz m : Nat} {x y : Operand} {u s : Value} {i : TypeInfo} {z : Value} {l news : List Value} 
    (ho : o.op = .call { callee := .builtin .append, args := #[x, y], argTypes := #[ts, tx] }) [Und P ts (.slice e)] [Und P tx (.slice ex)] [hsz : Siz P e sz] [ti : TI P e i] [hz : Zer P e z] (hx : ev E x = some s) (hy : ev E y = some u)
    (r : Rem (ownS e sz s l) L M) (hsrc : ∀ h, sep M h → srcOk u m news h) (hn : news.length = m * sz) (h1 : ∀ v ∈ news, v.oneCell' = true) (hz1 : z.cells.size = sz) (hpos : 0 < sz)
    (hroom : l.length + news.length ≤ 1073741824) (hby : i.bytes ≤ 1024) (hg : wantedE ops E o = some true) {d : Nat} (hd : o.dst = some d) (hnn : Nat.blt d n = true)
    (k : ∀ v', St β F (ownS e sz v' (l ++ news) :: M) (WO P n ops rest ((d, v') :: E) K)) : St β F L (WO P n ops (o :: rest) E K) := by
  refine st_own r ?_ ?_
  · rintro rfl rfl w hw Q hQ a ha
    have hs1 : srcOk u m news (hp w) := hsrc _ (star_drop (M := M) hw.heap)
    have hrun : ∃ v' w', (Builtin.append_ #[ts, tx] o.type #[.slice none 0 0, u]).run P w = .ok v' w' ∧ Ok β F (ownS e sz v' ([] ++ news) :: M) w' := by
      by_cases hm : m = 0
      · subst hm
        have hn0 : news = [] := List.length_eq_zero_iff.1 (by simpa using hn)
        subst hn0
        refine ⟨.slice none 0 0, w, ?_, hw.map fun _ s => star_comm (star_mono (fun _ x => x) (fun h _ => own_nil h) (star_true s))⟩
        simp [Builtin.append_, Und.run, hsz.eq, lenOf_src hs1, run_firstCells (sz := sz) (m := 0) (by simp) hs1]
      · obtain ⟨N, sp, e1, e2, e3⟩ := append_grows (P := P) (ts := ts) (tx := tx) (ty := o.type) (e := e) (ex := ex) (sz := sz) (m := m) (k := 0) (c := 0) (p := none) (u := u) (l := []) (news := news) (w := w) (.inl ⟨0, rfl, rfl, rfl⟩) (by simp) hs1 hn (by omega) hz1 (by
          have : m ≤ m * sz := Nat.le_mul_of_pos_right _ hpos
          omega) hby
        refine ⟨_, _, e1, ?_⟩
        have h5 := (hw.drawn (w.drawn + 1)).new (o := .cells (([] ++ news) ++ sp).toArray e (0, 0)) (fun c e fr h => by cases h; rfl)
        exact h5.map fun g hg => sep_map (fun g2 hg2 => .inr ⟨w.heap.size, 0 + m, N, sp, rfl, by simpa using hn, e3, e2, hg2⟩) hg
    obtain ⟨v', w', e1, e2⟩ := hrun
    unfold wpList
    rw [wanted_of ha hg]
    simp only [if_true]
    refine .inl ?_
    unfold Oper.wp
    have e3 : (execOp a.eval o).run P w = .ok (.value v') w' := by
      simp [execOp, ho, resolve, invoke, builtin, ha.ev hx, ha.ev hy, e1]
    rw [e3]
    simp only [Oper.upon]
    rw [hd]
    exact k v' w' e2 Q hQ _ (ha.put (d := some d) hnn _)
  · rintro b k0 c sp rfl hl hsp hc w hw Q hQ a ha
    have hs1 : srcOk u m news (hp w) := hsrc _ (star_drop (star_drop (M := cel b (l ++ sp) e :: M) hw.heap))
    have hb := hw.get (List.mem_cons_self ..)
    have hold : srcOk (.slice (some ⟨b, 0, none⟩) k0 c) k0 l (hp w) := .inr ⟨b, 0, c, l ++ sp, e, (0, 0), rfl, hb, by simp⟩
    have hrun : ∃ v' w', (Builtin.append_ #[ts, tx] o.type #[.slice (some ⟨b, 0, none⟩) k0 c, u]).run P w = .ok v' w' ∧ Ok β F (ownS e sz v' (l ++ news) :: M) w' := by
      by_cases hm : k0 + m ≤ c
      · obtain ⟨w', e1, e2, e3, e4, e5⟩ := append_fits (P := P) (ts := ts) (tx := tx) (ty := o.type) (e := e) (ex := ex) hb hl hsp hs1 hn h1 hm
        refine ⟨_, w', e1, ?_⟩
        have h5 := hw.set e2 e3 e4 e5 (fun c e fr _ h => by cases h; rfl)
        refine h5.map fun g hg => sep_map (fun g2 hg2 => .inr ⟨b, k0 + m, c, sp.drop news.length, rfl, by simp [hl, hn, Nat.add_mul], ?_, hm, hg2⟩) hg
        rw [List.length_drop, hsp, hn, ← Nat.sub_mul]; congr 1; omega
      · obtain ⟨N, sp', e1, e2, e3⟩ := append_grows (P := P) (ts := ts) (tx := tx) (ty := o.type) (e := e) (ex := ex) (u := u) (news := news) hold hl hs1 hn (by omega) hz1 (by
          have h6 : k0 ≤ k0 * sz := Nat.le_mul_of_pos_right _ hpos
          have h7 : m ≤ m * sz := Nat.le_mul_of_pos_right _ hpos
          omega) hby
        refine ⟨_, _, e1, ?_⟩
        have hM : Ok β F M w := hw.map fun _ s => star_drop s
        have h5 := (hM.drawn (w.drawn + 1)).new (o := .cells ((l ++ news) ++ sp').toArray e (0, 0)) (fun c e fr h => by cases h; rfl)
        exact h5.map fun g hg => sep_map (fun g2 hg2 => .inr ⟨w.heap.size, k0 + m, N, sp', rfl, by simp [hl, hn, Nat.add_mul], e3, e2, hg2⟩) hg
    obtain ⟨v', w', e1, e2⟩ := hrun
    unfold wpList
    rw [wanted_of ha hg]
    simp only [if_true]
    refine .inl ?_
    unfold Oper.wp
    have e3 : (execOp a.eval o).run P w = .ok (.value v') w' := by
      simp [execOp, ho, resolve, invoke, builtin, ha.ev hx, ha.ev hy, e1]
    rw [e3]
    simp only [Oper.upon]
    rw [hd]
    exact k v' w' e2 Q hQ _ (ha.put (d := some d) hnn _)

/-- A slice literal. -/
theorem WO_buildSlice {T e : TypeId} {sz len : Nat} {z : Value} {ps : List (Nat × Operand)} {us : List Value} {l : List Value} 
    (ho : o.op = .buildSlice T len ps.toArray) [Und P T (.slice e)] [hsz : Siz P e sz] [hz : Zer P e z] (hv : evs E (ps.map (·.2)) = some us) (hs : len * sz ≤ 16777216)
    (hl : Instr.fill (fun i => some (i * sz, sz)) (((Array.range (len * sz)).map (z.cells[· % z.cells.size]!))) ((ps.map (·.1)).zip us) = some l.toArray) (hpos : len * sz ≠ 0) (hg : wantedE ops E o = some true) {d : Nat} (hd : o.dst = some d) (hnn : Nat.blt d n = true)
    (k : ∀ b, St β F (cel b l e :: L) (WO P n ops rest ((d, (.slice (some ⟨b, 0, none⟩) len len)) :: E) K)) : St β F L (WO P n ops (o :: rest) E K) :=
  WO_new (g := fun b => .slice (some ⟨b, 0, none⟩) len len) (ob := .cells l.toArray e (0, 0)) hg (by rw [hd]; exact hnn) (fun a w ha hw => by
    have e1 : (ps.map fun x => (x.1, a.eval x.2)) = (ps.map (·.1)).zip us := by
      rw [← ha.evs hv]
      clear hv hl ho
      induction ps with
      | nil => rfl
      | cons p ps ih => simp [ih]
    have e2 : ¬ (2 ^ 24 < len * sz) := by
      have : (2 : Nat) ^ 24 = 16777216 := by decide
      omega
    simp only [execOp, ho, Instr.buildSlice, Sem.run_bind, Und.run, Result.andThen_ok, hsz.eq, Sem.run_pure, List.map_toArray, e1]
    simp only [gt_iff_lt, e2, if_false, hpos, Sem.run_bind, hz.eq, Result.andThen_ok, Sem.run_pure, hl, newRow, run_newObj]) (fun c e fr h => by cases h; rfl) (fun b => by rw [hd]; exact k b)

theorem WO_buildSlice0 {T e : TypeId} {sz : Nat} (ho : o.op = .buildSlice T 0 #[]) [Und P T (.slice e)] [hsz : Siz P e sz] (hg : wantedE ops E o = some true) {d : Nat} (hd : o.dst = some d) (hnn : Nat.blt d n = true)
    (k : ∀ b, St β F (cel b [] e :: L) (WO P n ops rest ((d, .slice (some ⟨b, 0, none⟩) 0 0) :: E) K)) : St β F L (WO P n ops (o :: rest) E K) :=
  WO_new (g := fun b => .slice (some ⟨b, 0, none⟩) 0 0) (ob := .cells ([] : List Value).toArray e (0, 0)) hg (by rw [hd]; exact hnn) (fun a w ha hw => by
    have er : Array.range 0 = #[] := rfl
    simp [execOp, ho, Instr.buildSlice, Und.run, hsz.eq, newRow, Instr.fill, er]) (fun c e fr h => by cases h; rfl) (fun b => by rw [hd]; exact k b)
theorem WO_makeSlice {T e : TypeId} {sz : Nat} {z : Value} {i : TypeInfo} {x y : Operand} {len cap : Nat} {l : List Value} {k1 k2 : IntKind} 
    (ho : o.op = .makeSlice T x y) [Und P T (.slice e)] [hsz : Siz P e sz] [hz : Zer P e z] [ti : TI P e i] (hx : ev E x = some (.int k1 (len : Int))) (hy : ev E y = some (.int k2 (cap : Int))) (hlc : len ≤ cap) (hl : (if cap * sz = 0 then [] else (List.range (cap * sz)).map (z.cells[· % z.cells.size]!)) = l) (hroom : cap ≤ 1073741824) (hby : i.bytes ≤ 1024) (hg : wantedE ops E o = some true) {d : Nat} (hd : o.dst = some d) (hnn : Nat.blt d n = true)
    (k : ∀ b, St β F (cel b l e :: L) (WO P n ops rest ((d, (.slice (some ⟨b, 0, none⟩) len cap)) :: E) K)) : St β F L (WO P n ops (o :: rest) E K) := by
  subst hl
  exact WO_new (g := fun b => .slice (some ⟨b, 0, none⟩) len cap) (ob := .cells (if cap * sz = 0 then [] else (List.range (cap * sz)).map (z.cells[· % z.cells.size]!)).toArray e (0, 0)) hg (by rw [hd]; exact hnn) (fun a w ha hw => by
    have w1 : IntKind.i64.wrap (len : Int) = (len : Int) := wrap_in ⟨by omega, by omega⟩
    have w2 : IntKind.i64.wrap (cap : Int) = (cap : Int) := wrap_in ⟨by omega, by omega⟩
    have hb : ¬ ((2 : Int) ^ 48 < (i.bytes : Int) * (cap : Int)) := by
      have h1 : i.bytes * cap ≤ 1024 * 1073741824 := Nat.mul_le_mul hby hroom
      have h2 : ((i.bytes * cap : Nat) : Int) = (i.bytes : Int) * (cap : Int) := by simp
      have h3 : (2 : Int) ^ 48 = 281474976710656 := by decide
      omega
    have e1 : ¬ ((cap : Int) < 0) := by omega
    have e2 : ¬ ((len : Int) < 0) := by omega
    have e3 : ¬ ((cap : Int) < (len : Int)) := by omega
    simp only [execOp, ho, Instr.makeSlice, Sem.run_bind, Und.run, Result.andThen_ok, hsz.eq, Sem.run_pure, ha.ev hx, ha.ev hy, asInt, asIntOf, ti.eq, w1, w2]
    have ec : (decide ((cap : Int) < 0) || decide ((i.bytes : Int) * (cap : Int) > 2 ^ 48) || decide ((len : Int) < 0) || decide ((len : Int) > (cap : Int))) = false := by
      have hb' : (i.bytes : Int) * (cap : Int) ≤ 281474976710656 := by
        have h3 : (2 : Int) ^ 48 = 281474976710656 := by decide
        omega
      simp [e1, e2, hb', hlc]
    simp only [ec, Bool.false_eq_true, if_false, Sem.run_bind, run_askRoom, Result.andThen_ok, hsz.eq, Int.toNat_natCast]
    have er : ∀ (f : Nat → Value) (k : Nat), (Array.range k).map f = ((List.range k).map f).toArray := fun f k => by apply Array.toList_inj.1; simp
    by_cases h0 : cap * sz = 0
    · have e0 : (Array.range 0) = #[] := rfl
      simp [h0, newRow, e0]
    · simp only [h0, if_false, Sem.run_bind, hz.eq, Result.andThen_ok, Sem.run_pure, newRow, run_newObj, er]) (fun c e fr h => by cases h; rfl) (fun b => by rw [hd]; exact k b)
end

/-! ### Maps with whole numbers as keys -/
def keyI (k : Int) : Value := .int .i64 k
/-- The value at a key. -/
def mget : List MapEntry → Int → Option Value
  | [], _ => none
  | e :: es, k => match e.key with
    | .int .i64 j => if k = j then some e.val else mget es k
    | _ => mget es k
/-- Whole numbers as keys, each once; stamps below the clock, each once. -/
structure MapOk (es : List MapEntry) (clock : Nat) : Prop where
  keys : ∀ e ∈ es, ∃ j, e.key = .int .i64 j
  once : (es.map (·.key)).Pairwise (fun a b => ∀ j, a = .int .i64 j → b ≠ .int .i64 j)
  born : (es.map (·.born)).Pairwise (· ≠ ·)
  clock : ∀ e ∈ es, e.born < clock
def mapA (b : Nat) (f : Int → Option Value) : SP := fun h => ∃ es clock, h b = some (.map es clock) ∧ MapOk es.toList clock ∧ ∀ k, mget es.toList k = f k

theorem findNow_int (k : Int) : ∀ (es : List MapEntry) (i : Nat), (∀ e ∈ es, ∃ j, e.key = .int .i64 j) → ∃ r, Instr.findNow (.int .i64) (.int .i64 k) es i = some r ∧ r.map (·.2) = mget es k ∧
    (∀ j v, r = some (j, v) → i ≤ j ∧ ∃ e, es[j - i]? = some e ∧ e.key = .int .i64 k ∧ e.val = v)
  | [], i, _ => ⟨none, rfl, rfl, fun _ _ h => by cases h⟩
  | e :: es, i, h => by
    obtain ⟨j, hj⟩ := h e (List.mem_cons_self ..)
    by_cases hk : k = j
    · subst hk
      refine ⟨some (i, e.val), by simp [Instr.findNow, hj, Instr.sameNow], by simp [mget, hj], fun j' v' h' => ?_⟩
      simp only [Option.some.injEq, Prod.mk.injEq] at h'
      obtain ⟨rfl, rfl⟩ := h'
      exact ⟨Nat.le_refl _, e, by simp, hj, rfl⟩
    · obtain ⟨r, h1, h2, h3⟩ := findNow_int k es (i + 1) (fun e he => h e (List.mem_cons_of_mem _ he))
      refine ⟨r, ?_, by simp [mget, hj, hk, h2], fun j' v' h' => ?_⟩
      · have : (k == j) = false := by simpa using hk
        simp [Instr.findNow, hj, Instr.sameNow, this, h1]
      · obtain ⟨q1, e', q2, q3⟩ := h3 j' v' h'
        refine ⟨by omega, e', ?_, q3⟩
        rw [show j' - i = (j' - (i + 1)) + 1 by omega]
        simpa using q2

theorem checkKey_int {P : Program} (b : Bool) (d : Nat) (t : TypeId) (k : Int) [u : Und P t (.int .i64)] (w : World) : (Instr.checkKey b (d + 1) t (.int .i64 k)).run P w = .ok () w := by
  simp [Instr.checkKey, Und.run]
theorem checkKey_int' {P : Program} (b : Bool) (t : TypeId) (k : Int) [u : Und P t (.int .i64)] (w : World) : (Instr.checkKey b 10000 t (.int .i64 k)).run P w = .ok () w := checkKey_int b 9999 t k w
theorem run_getObj_map {P : Program} {w : World} {b : Nat} {es : Array MapEntry} {c : Nat} (h : w.heap[b]? = some (.map es c)) : (getObj b).run P w = .ok (.map es c) w := by
  simp [getObj, Sem.run, h]

section
variable {P : Program} {β : Bs} {F : SP} {L M : List SP} {n : Nat} {ops : Array Oper} {rest : List Oper} {E : Env} {K : Env → World → Prop} {o : Oper} {v : Value}

theorem mem_map {b : Nat} {f : Int → Option Value} {w : World} (h : Ok β F L w) (hm : mapA b f ∈ L) : ∃ es clock, w.heap[b]? = some (.map es clock) ∧ MapOk es.toList clock ∧ ∀ k, mget es.toList k = f k := by
  have key : ∀ {L : List SP} {h : Hp}, mapA b f ∈ L → sep L h → ∃ es clock, h b = some (.map es clock) ∧ MapOk es.toList clock ∧ ∀ k, mget es.toList k = f k := by
    intro L
    induction L with
    | nil => intro h hm; cases hm
    | cons A L ih =>
      intro h hm s
      obtain ⟨h1, h2, d, e, x, y⟩ := s
      rcases List.mem_cons.1 hm with rfl | hm
      · obtain ⟨es, c, q1, q2⟩ := x
        exact ⟨es, c, by rw [e]; simp [un, q1], q2⟩
      · obtain ⟨es, c, q1, q2⟩ := ih hm y
        exact ⟨es, c, by rw [e, un_comm d]; simp [un, q1], q2⟩
  exact key (List.mem_cons_of_mem _ hm) h.heap

theorem q_lookup {T kt et : TypeId} {x y : Operand} {b : Nat} {k : Int} {f : Int → Option Value} {z : Value} (ho : o.op = .lookup T x y false) [Und P T (.map kt et)] [Und P kt (.int .i64)] [hz : Zer P et z]
    (hx : ev E x = some (.map (some b))) (hy : ev E y = some (.int .i64 k)) (hm : mapA b f ∈ L) : OpU P β F L n E o ((f k).getD z) :=
  .val fun a w ha hw => by
    obtain ⟨es, c, h1, h2, h3⟩ := mem_map hw hm
    obtain ⟨r, q1, q2, _⟩ := findNow_int k es.toList 0 h2.keys
    rw [h3 k] at q2
    simp only [execOp, ho, ha.ev hx, ha.ev hy, Instr.lookup, Und.run, Sem.run_bind, Result.andThen_ok, run_getObj_map h1, Sem.run_pure, checkKey_int', Instr.findKey, q1]
    cases r with
    | none => simp only [Option.map_none] at q2; simp [← q2, hz.eq]
    | some p => simp only [Option.map_some] at q2; simp [← q2]
theorem q_lookupOk {T kt et : TypeId} {x y : Operand} {b : Nat} {k : Int} {f : Int → Option Value} {z : Value} (ho : o.op = .lookup T x y true) [Und P T (.map kt et)] [Und P kt (.int .i64)] [hz : Zer P et z]
    (hx : ev E x = some (.map (some b))) (hy : ev E y = some (.int .i64 k)) (hm : mapA b f ∈ L) : OpU P β F L n E o (.tuple [(f k).getD z, .bool (f k).isSome].toArray) :=
  .val fun a w ha hw => by
    obtain ⟨es, c, h1, h2, h3⟩ := mem_map hw hm
    obtain ⟨r, q1, q2, _⟩ := findNow_int k es.toList 0 h2.keys
    rw [h3 k] at q2
    simp only [execOp, ho, ha.ev hx, ha.ev hy, Instr.lookup, Und.run, Sem.run_bind, Result.andThen_ok, run_getObj_map h1, Sem.run_pure, checkKey_int', Instr.findKey, q1]
    cases r with
    | none => simp only [Option.map_none] at q2; simp [← q2, hz.eq]
    | some p => simp only [Option.map_some] at q2; simp [← q2]
theorem q_lookupNil {T kt et : TypeId} {x y : Operand} {k : Int} {z : Value} (ho : o.op = .lookup T x y false) [Und P T (.map kt et)] [Und P kt (.int .i64)] [hz : Zer P et z]
    (hx : ev E x = some (.map none)) (hy : ev E y = some (.int .i64 k)) : OpU P β F L n E o z :=
  .val fun a w ha hw => by
    simp only [execOp, ho, ha.ev hx, ha.ev hy, Instr.lookup, Und.run, Sem.run_bind, Result.andThen_ok, Sem.run_pure, checkKey_int', Instr.findKey]
    simp [Instr.findNow, hz.eq]

def mset (f : Int → Option Value) (k : Int) (v : Value) : Int → Option Value := fun j => if j = k then some v else f j
theorem mget_push (k : Int) (v : Value) (c : Nat) : ∀ (es : List MapEntry), mget es k = none → (∀ e ∈ es, ∃ j, e.key = .int .i64 j) → ∀ j, mget (es ++ [{ key := .int .i64 k, val := v, born := c }]) j = if j = k then some v else mget es j
  | [], _, _, j => by simp [mget]
  | e :: es, h, hk, j => by
    obtain ⟨i, hi⟩ := hk e (List.mem_cons_self ..)
    simp only [mget, hi, List.cons_append] at h ⊢
    by_cases h1 : k = i
    · simp [h1] at h
    · simp only [h1, if_false] at h
      rw [mget_push k v c es h (fun e he => hk e (List.mem_cons_of_mem _ he)) j]
      by_cases h2 : j = i
      · subst h2
        have : ¬ j = k := fun h => h1 h.symm
        simp [this]
      · simp [h2]
theorem mget_modify (k : Int) (v : Value) : ∀ (es : List MapEntry) (i : Nat) (e : MapEntry), es[i]? = some e → e.key = .int .i64 k → (∀ e ∈ es, ∃ j, e.key = .int .i64 j) →
    (es.map (·.key)).Pairwise (fun a b => ∀ j, a = .int .i64 j → b ≠ .int .i64 j) → ∀ j, mget (es.modify i fun e => { e with key := .int .i64 k, val := v }) j = if j = k then some v else mget es j
  | [], _, _, h, _, _, _, _ => by cases h
  | x :: es, 0, e, h, he, hk, hp, j => by
    simp at h; subst h
    simp only [List.modify_zero_cons, mget, he]
    by_cases h1 : j = k <;> simp [h1]
  | x :: es, i + 1, e, h, he, hk, hp, j => by
    obtain ⟨y, hy⟩ := hk x (List.mem_cons_self ..)
    simp only [List.getElem?_cons_succ] at h
    simp only [List.map_cons, List.pairwise_cons] at hp
    have hne : ¬ k = y := by
      intro h1; subst h1
      exact hp.1 e.key (List.mem_map.2 ⟨e, List.mem_of_getElem? h, rfl⟩) k hy he
    simp only [List.modify_succ_cons, mget, hy]
    rw [mget_modify k v es i e h he (fun e he => hk e (List.mem_cons_of_mem _ he)) hp.2 j]
    by_cases h2 : j = y
    · subst h2
      have : ¬ j = k := fun h => hne h.symm
      simp [this]
    · simp [h2]
theorem mget_none {k : Int} : ∀ {es : List MapEntry}, mget es k = none → ∀ e ∈ es, e.key ≠ .int .i64 k
  | x :: es, h, e, he => by
    simp only [mget] at h
    rcases List.mem_cons.1 he with rfl | he
    · intro hk; simp [hk] at h
    · split at h
      · split at h
        · cases h
        · exact mget_none h e he
      · exact mget_none h e he
theorem modify_map {α β : Type} (f : α → β) (g : α → α) (h : ∀ a, f (g a) = f a) : ∀ (l : List α) (i : Nat), (l.modify i g).map f = l.map f
  | [], _ => by simp
  | x :: l, 0 => by simp [h]
  | x :: l, i + 1 => by simp [modify_map f g h l i]
theorem mem_modify {α : Type} {g : α → α} : ∀ {l : List α} {i : Nat} {a : α}, a ∈ l.modify i g → a ∈ l ∨ ∃ b ∈ l, a = g b
  | [], i, a, h => by simp at h
  | x :: l, 0, a, h => by
    simp only [List.modify_zero_cons, List.mem_cons] at h
    rcases h with rfl | h
    · exact .inr ⟨x, List.mem_cons_self .., rfl⟩
    · exact .inl (List.mem_cons_of_mem _ h)
  | x :: l, i + 1, a, h => by
    simp only [List.modify_succ_cons, List.mem_cons] at h
    rcases h with rfl | h
    · exact .inl (List.mem_cons_self ..)
    · rcases mem_modify h with h | ⟨b, hb, e⟩
      · exact .inl (List.mem_cons_of_mem _ h)
      · exact .inr ⟨b, List.mem_cons_of_mem _ hb, e⟩
theorem WO_mapUpdate {T kt et : TypeId} {x y z : Operand} {b : Nat} {k : Int} {f : Int → Option Value} {u : Value} (ho : o.op = .mapUpdate T x y z) [Und P T (.map kt et)] [Und P kt (.int .i64)]
    (hx : ev E x = some (.map (some b))) (hy : ev E y = some (.int .i64 k)) (hz : ev E z = some u) (r : Rem (mapA b f) L M) (hg : wantedE ops E o = some true) (hd : o.dst = none)
    (kk : St β F (mapA b (mset f k u) :: M) (WO P n ops rest E K)) : St β F L (WO P n ops (o :: rest) E K) := by
  refine WO_run (M := mapA b (mset f k u) :: M) (v := undef) hg (by rw [hd]; rfl) (fun a w ha hw => ?_) (by rw [hd]; exact kk)
  have h3 : sep (mapA b f :: F :: M) (hp w) := star_left (hw.perm r.perm).heap
  obtain ⟨g1, g2, d, e, ⟨es, c, h1, h2, h4⟩, y'⟩ := h3
  have hM : Ok β F (blk b (.map es c) :: M) w := ⟨hw.os, hw.tape, hw.output, hw.size, hw.free, star_left (B := F) (A := blk b (.map es c)) ⟨g1, g2, d, e, h1, y'⟩⟩
  have hb := hM.get (List.mem_cons_self ..)
  have hlt : b < w.heap.size := (Array.getElem?_eq_some_iff.1 hb).1
  obtain ⟨q, q1, q2, q3⟩ := findNow_int k es.toList 0 h2.keys
  have upd : ∀ (es' : Array MapEntry) (c' : Nat), MapOk es'.toList c' → (∀ j, mget es'.toList j = mset f k u j) → Ok β F (mapA b (mset f k u) :: M) { w with heap := w.heap.setIfInBounds b (.map es' c') } := by
    intro es' c' ok' get'
    have h5 := hM.set (w' := { w with heap := w.heap.setIfInBounds b (.map es' c') }) (o' := .map es' c') rfl (by simp) (by simp [hlt]) (fun c hc => by simp [Array.getElem?_setIfInBounds_ne (Ne.symm hc)]) (fun c e fr _ h => by cases h)
    exact h5.map fun g hg => sep_map (fun g2 hg2 => ⟨es', c', hg2, ok', get'⟩) hg
  have run1 : ∀ (q : Option (Nat × Value)), Instr.findNow (.int .i64) (.int .i64 k) es.toList 0 = some q → (execOp a.eval o).run P w = Result.andThen (α := Unit) (β := Next) (Sem.run P (α := Unit) (match q with
      | some (i, _) => do
        let key ← Instr.keyThatStays (((es[i]?).map (·.key)).getD (.int .i64 k)) (.int .i64 k)
        setObj b (.map (es.modify i fun e => { e with key, val := u }) c)
      | none => setObj b (.map (es.push { key := .int .i64 k, val := u, born := c }) (c + 1))) w) fun _ w' => .ok .skip w' := by
    intro q q1
    simp only [execOp, ho, ha.ev hx, ha.ev hy, ha.ev hz, Instr.mapUpdate, Und.run, Sem.run_bind, Result.andThen_ok, run_getObj_map hb, Sem.run_pure, checkKey_int', Instr.findKey, q1]
    cases q <;> simp
  cases q with
  | none =>
    refine ⟨_, .inr ⟨by rw [run1 none q1]; simp [setObj, Sem.run, hb], rfl⟩, upd (es.push { key := .int .i64 k, val := u, born := c }) (c + 1) ?_ ?_⟩
    · have hn : mget es.toList k = none := by simpa using q2.symm
      refine ⟨fun e he => ?_, ?_, ?_, fun e he => ?_⟩
      · simp at he; rcases he with he | rfl
        · exact h2.keys e (by simpa using he)
        · exact ⟨k, rfl⟩
      · simp only [Array.toList_push, List.map_append, List.map_cons, List.map_nil]
        rw [List.pairwise_append]
        refine ⟨h2.once, by simp, ?_⟩
        intro a ha b hb j hj
        simp only [List.mem_singleton] at hb
        subst hb
        obtain ⟨e, he, rfl⟩ := List.mem_map.1 ha
        intro hc
        have := mget_none hn e he
        rw [hj] at this
        exact this hc.symm
      · simp only [Array.toList_push, List.map_append, List.map_cons, List.map_nil]
        rw [List.pairwise_append]
        refine ⟨h2.born, by simp, ?_⟩
        intro a ha b hb
        simp only [List.mem_singleton] at hb
        subst hb
        obtain ⟨e, he, rfl⟩ := List.mem_map.1 ha
        have := h2.clock e he
        omega
      · simp at he; rcases he with he | rfl
        · have := h2.clock e (by simpa using he); omega
        · simp
    · intro j
      have hn : mget es.toList k = none := by simpa using q2.symm
      rw [Array.toList_push, mget_push k u c es.toList hn h2.keys j, h4 j]; rfl
  | some p =>
    obtain ⟨i, v0⟩ := p
    obtain ⟨_, e0, g3, g4, g5⟩ := q3 i v0 rfl
    simp only [Nat.sub_zero] at g3
    have hk0 : ((es[i]?).map (·.key)).getD (.int .i64 k) = .int .i64 k := by
      have : es[i]? = some e0 := by simpa using g3
      simp [this, g4]
    refine ⟨_, .inr ⟨by
      rw [run1 _ q1]
      simp only [hk0]
      simp [Instr.keyThatStays, Instr.sameBits, setObj, Sem.run, hb], rfl⟩, upd (es.modify i fun e => { e with key := .int .i64 k, val := u }) c ?_ ?_⟩
    · have hkeys : ((es.toList.modify i fun e => { e with key := .int .i64 k, val := u }).map (·.key)) = es.toList.map (·.key) := by
        apply List.ext_getElem?
        intro j
        simp only [List.getElem?_map, List.getElem?_modify]
        by_cases hij : i = j
        · subst hij; simp [g3, g4]
        · simp [hij]
      have hborn : ((es.toList.modify i fun e => { e with key := .int .i64 k, val := u }).map (·.born)) = es.toList.map (·.born) := modify_map (fun (e : MapEntry) => e.born) (fun e => { e with key := .int .i64 k, val := u }) (fun _ => rfl) _ _
      refine ⟨fun e he => ?_, by rw [Array.toList_modify, hkeys]; exact h2.once, by rw [Array.toList_modify, hborn]; exact h2.born, fun e he => ?_⟩
      · rw [Array.toList_modify] at he
        rcases mem_modify he with he | ⟨e', he', rfl⟩
        · exact h2.keys e he
        · exact ⟨k, rfl⟩
      · rw [Array.toList_modify] at he
        rcases mem_modify he with he | ⟨e', he', rfl⟩
        · exact h2.clock e he
        · exact h2.clock e' he'
    · intro j
      rw [Array.toList_modify, mget_modify k u es.toList i e0 g3 g4 h2.keys h2.once j, h4 j]; rfl
end
end Go.Sl
namespace Go.Sl
set_option linter.all false

section
variable {P : Program} {ops : Array Oper} {md : Region.Mode} {Cw : World → Prop}
def anyLQ (P : Program) (md : Region.Mode) (ops : Array Oper) (Cw : World → Prop) (n : Nat) (Lq : Array Bool → Act → Prop) : Nat → Array Bool → Act → Prop
  | 0, listed, a => Lq listed a
  | f + 1, listed, a => Region.ready md ops listed ≠ [] ∧ ∀ i ∈ Region.ready md ops listed, i < n ∧ qOp P ops Cw i (anyLQ P md ops Cw n Lq f (listed.setIfInBounds i true)) a
theorem any_of_head {n g : Nat} {Lq : Array Bool → Act → Prop} {Q' : Exit → Act → World → Prop} (hL : ∀ listed a w, Cw w → Lq listed a → wpAny P md ops Q' g listed a w) :
    ∀ (f : Nat) (listed : Array Bool) (a : Act) (w : World), Cw w → anyLQ P md ops Cw n Lq f listed a → wpAny P md ops Q' (f + g) listed a w
  | 0, listed, a, w, hw, h => by rw [Nat.zero_add]; exact hL _ _ _ hw h
  | f + 1, listed, a, w, hw, h => by
    rw [show f + 1 + g = (f + g) + 1 by omega]
    exact ⟨fun h0 => absurd h0 h.1, fun i hi => wpOp_of_qOp hw (fun a' w' hw' h' => any_of_head hL f _ a' w' hw' h') (h.2 i hi).2⟩
theorem anyLQ_first {n i : Nat} {oi : Oper} {v : Value} {Lq : Array Bool → Act → Prop} (hi : ops[i]? = some oi) (hsel : ∀ (j : Nat) (o : Oper) cs b, ops[j]? = some o → o.op ≠ .select cs b)
    (hs : Region.sinkB md ops n = true) (hc : Region.chainB md ops n = true) (hn : n < ops.size) (hin : i < n)
    (hdone : ∀ listed a, Lq listed a → ∀ j ∈ Region.ready md ops listed, n ≤ j) :
    ∀ (f : Nat) (listed : Array Bool) (a : Act), HeadInv md ops n listed →
      (∀ j oj, ops[j]? = some oj → j ≠ i → listed.getD j true = false → (∀ e ∈ oj.after, Region.binds md e = true → e.on ≠ i) → oi.apart ops oj = true) →
      i ∈ Region.ready md ops listed → YieldsIn P ops Cw oi v a →
      anyLQ P md ops Cw n Lq f (listed.setIfInBounds i true) (a.put oi.dst v) → anyLQ P md ops Cw n Lq (f + 1) listed a := by
  intro f
  induction f with
  | zero =>
    intro listed a inv _ hr hy H
    have hun := (mem_ready.1 hr).1
    refine ⟨fun h => (by rw [h] at hr; cases hr), fun j hj => ?_⟩
    have hjn : j < n := by
      rcases Nat.lt_or_ge j n with h | h
      · exact h
      · exact absurd hj (tail_waits hs hc hn inv _ i rfl hin hun j h)
    refine ⟨hjn, ?_⟩
    by_cases hji : j = i
    · subst hji; exact hy.qOp hi H
    · have := hdone _ _ H j (ready_mono hj hji)
      omega
  | succ f ih =>
    intro listed a inv hfree hr hy H
    have hun := (mem_ready.1 hr).1
    refine ⟨fun h => (by rw [h] at hr; cases hr), fun j hj => ?_⟩
    have hjn : j < n := by
      rcases Nat.lt_or_ge j n with h | h
      · exact h
      · exact absurd hj (tail_waits hs hc hn inv _ i rfl hin hun j h)
    refine ⟨hjn, ?_⟩
    by_cases hji : j = i
    · subst hji; exact hy.qOp hi H
    · have h1 := (H.2 j (ready_mono hj hji)).2
      obtain ⟨hjun, oj, hoj, hall⟩ := mem_ready.1 hj
      have hnot : ∀ e ∈ oj.after, Region.binds md e = true → e.on ≠ i := fun e he hb heq => by
        have h1 := hall e he hb
        rw [heq, getD_both hun] at h1
        cases h1
      have h2 := qOp_put hoj (hfree j oj hoj hji hjun hnot) (fun cs b => hsel i oi cs b hi) (fun cs b => hsel j oj cs b hoj) hy h1
      have hfree' : ∀ k ok, ops[k]? = some ok → k ≠ i → (listed.setIfInBounds j true).getD k true = false →
          (∀ e ∈ ok.after, Region.binds md e = true → e.on ≠ i) → oi.apart ops ok = true := fun k ok hk hki hun hno => by
        refine hfree k ok hk hki ?_ hno
        by_cases hjk : j = k
        · subst hjk; exact hjun
        · rw [getD_set_ne true hjk] at hun; exact hun
      refine qOp_mono (fun a' h3 => ih (listed.setIfInBounds j true) a' (inv.set hj hjn) hfree' (ready_mono hr (Ne.symm hji)) h3.1 ?_) h2
      rw [Array.setIfInBounds_comm _ _ hji]
      exact h3.2
theorem anyLQ_lex {n g : Nat} {Lq : Act → Prop} (hsel : Region.noSelect ops = true) (hs : Region.sinkB md ops n = true) (hc : Region.chainB md ops n = true) (hn : n < ops.size) :
    ∀ (l : List Oper) (k : Nat) (listed : Array Bool) (a : Act), (∀ j, j < l.length → l[j]? = ops[k + j]?) → k + l.length = n → HeadInv md ops n listed →
    Region.lexHead md ops g l.length k listed = true → wpQuiet P ops Cw Lq l a →
    anyLQ P md ops Cw n (fun listed' a' => Region.seqB md ops g n listed' = true ∧ Lq a') l.length listed a
  | [], k, listed, a, _, hk, _, hB, h => by
    have : k = n := by simpa using hk
    subst this
    exact ⟨by simpa [Region.lexHead] using hB, h⟩
  | o :: l, k, listed, a, hl, hk, inv, hB, h => by
    have h0 : ops[k]? = some o := by simpa using (hl 0 (by simp)).symm
    simp only [List.length_cons, Region.lexHead, Bool.and_eq_true] at hB
    obtain ⟨⟨hr, hf⟩, hB'⟩ := hB
    have hkn : k < n := by simp only [List.length_cons] at hk; omega
    have hr' : k ∈ Region.ready md ops listed := by simpa using hr
    have hst : qOp P ops Cw k (wpQuiet P ops Cw Lq l) a := by unfold qOp; simp only [h0]; exact h
    obtain ⟨v, hy, hK⟩ := yieldsIn_of_qOp h0 hst
    exact anyLQ_first h0 (Region.noSelect_spec hsel) hs hc hn hkn (fun listed' a' hL => seqB_ready hL.1) l.length listed a inv (Region.free_spec h0 hf) hr' hy
      (anyLQ_lex hsel hs hc hn l (k + 1) _ _ (fun j hj => by have := hl (j + 1) (by simp; omega); simpa [Nat.add_assoc, Nat.add_comm 1 j] using this) (by simp only [List.length_cons] at hk; omega) (inv.set hr' hkn) hB' hK)
theorem region_quiet_tail {id : Nat} {Q : Exit → Act → World → Prop} {a : Act} {w : World} {l : List Oper} (n : Nat) (hm : P.follows .mixedOrders = true) (hB : Region.lexTailB .any l.toArray n = true) (hC : Cw { w with drawn := w.drawn + 1 })
    (h : wpQuiet P l.toArray Cw (fun a' => ∀ w', Cw w' → wpList P l.toArray Q (l.drop n) a' w') (l.take n) a) : (Code.region id l.toArray true).wp P Q a w := by
  simp only [Region.lexTailB, Bool.and_eq_true, decide_eq_true_eq] at hB
  obtain ⟨⟨⟨⟨hsel, hn⟩, hs⟩, hc⟩, hlex⟩ := hB
  have hn' : n < l.length := by simpa using hn
  have htl : (l.take n).length = n := by simp; omega
  have hdl : (l.drop n).length = l.toArray.size - n := by simp
  have inv0 : HeadInv .any l.toArray n (Array.replicate l.toArray.size false) :=
    ⟨by simp, fun j oj _ hl => (by rw [getD_replicate_false] at hl; cases hl), fun t _ ht => getD_in (by simpa using ht) (getD_replicate_false _ _)⟩
  have H := anyLQ_lex (md := .any) (g := l.toArray.size - n) hsel hs hc hn (l.take n) 0 _ a (fun j hj => by
    have hj' : j < n := by rw [htl] at hj; exact hj
    simp [hj']) (by simpa using htl) inv0 (by rw [htl]; exact hlex) h
  refine wp_region_any hm ?_
  have := any_of_head (Q' := Q) (g := l.toArray.size - n) (fun listed a' w' hw' hL => by
    have := wpAny_of_seq (md := .any) (Q' := Q) (l.drop n) n listed a' w' (fun j => by simp [List.getElem?_drop]) (by rw [hdl]; exact hL.1) (hL.2 w' hw')
    rwa [hdl] at this) _ _ _ _ hC H
  rw [htl, show n + (l.toArray.size - n) = l.toArray.size by omega] at this
  exact this
end

section
variable {P : Program} {f : FuncId} {β : Bs} {F : SP} {L M : List SP} {n : Nat} {R : Value → List SP → Prop} {k : List Item} {E : Env}
inductive Split : Nat → List Oper → List Oper → List Oper → Prop
  | zero {l : List Oper} : Split 0 l [] l
  | succ {m : Nat} {a : Oper} {l l1 l2 : List Oper} : Split m l l1 l2 → Split (m + 1) (a :: l) (a :: l1) l2
theorem Split.eq {m : Nat} {l l1 l2 : List Oper} (h : Split m l l1 l2) : l.take m = l1 ∧ l.drop m = l2 := by
  induction h with
  | zero => simp
  | succ _ ih => simp [ih.1, ih.2]
theorem WT_tail {id : Nat} {l l1 l2 : List Oper} [wd : Wide P] (m : Nat) (hB : Region.lexTailB .any l.toArray m = true) (hs : Split m l l1 l2)
    (h : WQ P β F L n l.toArray l1 E (fun E' => St β F L (WO P n l.toArray l2 E' (WT P f β F n R k)))) : St β F L (WT P f β F n R (.code (.region id l.toArray true) :: k) E) := by
  obtain ⟨h1, h2⟩ := hs.eq
  intro w hw b cs a hb hk ha
  have h3 := region_quiet_tail (P := P) (Cw := Ok β F L) (id := id) (a := a) (w := w) (Q := fun e a' w' => e = .normal ∧ ∃ E', WT P f β F n R k E' w' ∧ EnvOk n E' a') m wd.eq hB (hw.drawn _)
    (by
      rw [h1]
      exact h _ (fun E' a' hk' ha' w' hw' => by rw [h2]; exact hk' w' hw' _ (fun E'' w'' a'' x y => ⟨rfl, E'', x, y⟩) a' ha') a ha)
  obtain ⟨e, a', w', ⟨rfl, E', h4, h5⟩, harr⟩ := h3 b k cs
  exact (h4 b cs a' hb hk h5).steps harr
/-- A value that is a bool is told apart. -/
theorem bool_split {X : Env → World → Prop} {d : Nat} {b : Bool} {E : Env} (h1 : b = true → St β F L (X ((d, .bool true) :: E))) (h2 : b = false → St β F L (X ((d, .bool false) :: E))) : St β F L (X ((d, .bool b) :: E)) := by
  cases b
  · exact h2 rfl
  · exact h1 rfl
theorem boolQ_split {X : Env → Prop} {d : Nat} {b : Bool} {E : Env} (h1 : b = true → X ((d, .bool true) :: E)) (h2 : b = false → X ((d, .bool false) :: E)) : X ((d, .bool b) :: E) := by
  cases b
  · exact h2 rfl
  · exact h1 rfl
end
end Go.Sl
namespace Go.Sl
set_option linter.all false

theorem memA {A : SP} {L : List SP} {i : Nat} (h : L[i]? = some A) : A ∈ L := List.mem_of_getElem? h

theorem castN (a : Nat) : (a : Int) = (a : Int) := rfl
theorem litN (k : Nat) : (OfNat.ofNat k : Int) = ((OfNat.ofNat k : Nat) : Int) := rfl
/-- One operation that only looks. -/
theorem qq {P : Program} {β : Bs} {F : SP} {L : List SP} {n : Nat} {E : Env} {o : Oper} {v : Value} (q : OpU P β F L n E o v := by
    first
    | exact q_move rfl rfl
    | exact q_assign rfl rfl
    | exact q_nilCheck rfl rfl
    | exact q_fieldAddr rfl (by rfl)
    | exact q_field rfl (by rfl) (by rfl)
    | exact q_load rfl (by rfl) (by first | exact .head _ | exact .tail _ (.head _) | exact .tail _ (.tail _ (.head _)) | exact .tail _ (.tail _ (.tail _ (.head _))) | exact .tail _ (.tail _ (.tail _ (.tail _ (.head _)))) | exact .tail _ (.tail _ (.tail _ (.tail _ (.tail _ (.head _))))) | exact .tail _ (.tail _ (.tail _ (.tail _ (.tail _ (.tail _ (.head _)))))) | exact .tail _ (.tail _ (.tail _ (.tail _ (.tail _ (.tail _ (.tail _ (.head _)))))))) (by first | rfl | assumption)
    | exact q_extract rfl rfl rfl
    | exact q_pick_t rfl rfl rfl
    | exact q_pick_f rfl rfl rfl
    | exact q_not_t rfl rfl
    | exact q_not_f rfl rfl
    | exact q_not rfl rfl
    | exact q_lenSlice rfl rfl
    | exact q_inc rfl rfl rfl (by omega)
    | exact q_addN rfl rfl rfl (by first | (with_reducible exact castN _) | exact litN _ | rfl) (by first | (with_reducible exact castN _) | exact litN _ | rfl) (by omega)
    | exact q_mulN rfl rfl rfl (by first | (with_reducible exact castN _) | exact litN _ | rfl) (by first | (with_reducible exact castN _) | exact litN _ | rfl) (by omega)
    | exact q_quoN rfl rfl rfl (by first | (with_reducible exact castN _) | exact litN _ | rfl) (by first | (with_reducible exact castN _) | exact litN _ | rfl) (by omega) (by omega)
    | exact q_remN rfl rfl rfl (by first | (with_reducible exact castN _) | exact litN _ | rfl) (by first | (with_reducible exact castN _) | exact litN _ | rfl) (by omega)
    | exact q_add rfl rfl rfl (by omega)
    | exact q_sub rfl rfl rfl (by omega)
    | exact q_mul rfl rfl rfl (by omega)
    | exact dec_t (by first | assumption | omega) (q_lss rfl rfl rfl)
    | exact dec_f (by first | assumption | omega) (q_lss rfl rfl rfl)
    | exact dec_t (by first | assumption | omega) (q_eql rfl rfl rfl)
    | exact dec_f (by first | assumption | omega) (q_eql rfl rfl rfl)
    | exact dec_t (by first | assumption | omega) (q_neq rfl rfl rfl)
    | exact dec_f (by first | assumption | omega) (q_neq rfl rfl rfl)
    | exact dec_t (by first | assumption | omega) (q_geq rfl rfl rfl)
    | exact dec_f (by first | assumption | omega) (q_geq rfl rfl rfl)
    | exact dec_t (by first | assumption | omega) (q_gtr rfl rfl rfl)
    | exact dec_f (by first | assumption | omega) (q_gtr rfl rfl rfl)
    | exact dec_t (by first | assumption | omega) (q_leq rfl rfl rfl)
    | exact dec_f (by first | assumption | omega) (q_leq rfl rfl rfl)
    | exact q_quo rfl rfl rfl (by omega) (by omega)
    | exact q_rem rfl rfl rfl (by omega) (by omega)
    | exact q_shl rfl rfl rfl (by omega) (by rfl)
    | exact q_lss rfl rfl rfl
    | exact q_eql rfl rfl rfl
    | exact q_neq rfl rfl rfl
    | exact q_geq rfl rfl rfl
    | exact q_gtr rfl rfl rfl
    | exact q_leq rfl rfl rfl
    | exact q_ptrNil rfl rfl rfl
    | exact q_nilNil rfl rfl rfl
    | exact q_ptrNilN rfl rfl rfl
    | exact q_nilNilN rfl rfl rfl
    | exact q_sliceNil rfl rfl rfl
    | exact q_boolEq rfl rfl rfl
    | exact q_boolNe rfl rfl rfl
    | exact q_indexAddr rfl rfl rfl rfl (by first | assumption | omega)
    | exact q_indexAddrArr rfl rfl rfl rfl (by first | assumption | omega)
    | exact q_loadAgg rfl rfl (by first | exact .head _ | exact .tail _ (.head _) | exact .tail _ (.tail _ (.head _)) | exact .tail _ (.tail _ (.tail _ (.head _))) | exact .tail _ (.tail _ (.tail _ (.tail _ (.head _)))) | exact .tail _ (.tail _ (.tail _ (.tail _ (.tail _ (.head _)))))) (by assumption) (by first | rfl | assumption)
    | exact q_build rfl rfl (by rfl)
    | exact q_sliceArr rfl rfl rfl rfl (by omega) (by omega) (by omega)
    | exact q_makeFunc rfl rfl rfl) : OpU P β F L n E o v := q

theorem isWO {P : Program} {β : Bs} {F : SP} {L : List SP} {n : Nat} {ops : Array Oper} {o : Oper} {rest : List Oper} {E : Env} {K : Env → World → Prop} (h : St β F L (WO P n ops (o :: rest) E K)) : St β F L (WO P n ops (o :: rest) E K) := h
theorem isWQ {P : Program} {β : Bs} {F : SP} {L : List SP} {n : Nat} {ops : Array Oper} {o : Oper} {rest : List Oper} {E : Env} {K : Env → Prop} (h : WQ P β F L n ops (o :: rest) E K) : WQ P β F L n ops (o :: rest) E K := h
structure Wrap (p : Prop) : Prop where
  it : p
theorem go {X Y : Prop} (k : Y) (h : Wrap Y → X := by
    intro y
    repeat (first
      | (refine WO_nil ?_)
      | (refine isWO ?_; refine WO_q qq rfl rfl rfl ?_)
      | (refine WT_seq ?_)
      | (refine WT_region ?_)
      | (refine WT_true rfl ?_)
      | (refine WT_false rfl ?_)
      | (refine WT_skip ?_)
      | (refine WT_block ?_)
      | (refine WT_inBlock ?_)
      | (refine WT_exit rfl ?_)
      | (refine WO_skip rfl rfl rfl ?_)
      | (refine WQ_nil ?_)
      | (refine isWQ ?_; refine WQ_q qq rfl rfl rfl ?_)
      | (refine WQ_skip rfl rfl rfl ?_))
    exact y.it) : X := h ⟨k⟩

section
variable {P : Program} {β : Bs} {F : SP} {L M : List SP} {n : Nat} {ops : Array Oper} {rest : List Oper} {E : Env} {K : Env → World → Prop} {o : Oper} {v : Value}
/-- Parts of what there is are found by a fixed row of attempts. -/
theorem pick {As : List SP} {X : World → Prop} (k : St β F As X) (r : Rems As L M := by first | exact .nil | exact .cons (by first | exact .here | exact .there .here | exact .there (.there .here) | exact .there (.there (.there .here)) | exact .there (.there (.there (.there .here))) | exact .there (.there (.there (.there (.there .here)))) | exact .there (.there (.there (.there (.there (.there .here))))) | exact .there (.there (.there (.there (.there (.there (.there .here)))))) | exact .there (.there (.there (.there (.there (.there (.there (.there .here))))))) | exact .there (.there (.there (.there (.there (.there (.there (.there (.there .here)))))))) | exact .there (.there (.there (.there (.there (.there (.there (.there (.there (.there .here))))))))) | exact .there (.there (.there (.there (.there (.there (.there (.there (.there (.there (.there .here))))))))))) .nil | exact .cons (by first | exact .here | exact .there .here | exact .there (.there .here) | exact .there (.there (.there .here)) | exact .there (.there (.there (.there .here))) | exact .there (.there (.there (.there (.there .here)))) | exact .there (.there (.there (.there (.there (.there .here))))) | exact .there (.there (.there (.there (.there (.there (.there .here)))))) | exact .there (.there (.there (.there (.there (.there (.there (.there .here))))))) | exact .there (.there (.there (.there (.there (.there (.there (.there (.there .here)))))))) | exact .there (.there (.there (.there (.there (.there (.there (.there (.there (.there .here))))))))) | exact .there (.there (.there (.there (.there (.there (.there (.there (.there (.there (.there .here))))))))))) (.cons (by first | exact .here | exact .there .here | exact .there (.there .here) | exact .there (.there (.there .here)) | exact .there (.there (.there (.there .here))) | exact .there (.there (.there (.there (.there .here)))) | exact .there (.there (.there (.there (.there (.there .here))))) | exact .there (.there (.there (.there (.there (.there (.there .here)))))) | exact .there (.there (.there (.there (.there (.there (.there (.there .here))))))) | exact .there (.there (.there (.there (.there (.there (.there (.there (.there .here)))))))) | exact .there (.there (.there (.there (.there (.there (.there (.there (.there (.there .here))))))))) | exact .there (.there (.there (.there (.there (.there (.there (.there (.there (.there (.there .here))))))))))) .nil) | exact .cons (by first | exact .here | exact .there .here | exact .there (.there .here) | exact .there (.there (.there .here)) | exact .there (.there (.there (.there .here))) | exact .there (.there (.there (.there (.there .here)))) | exact .there (.there (.there (.there (.there (.there .here))))) | exact .there (.there (.there (.there (.there (.there (.there .here)))))) | exact .there (.there (.there (.there (.there (.there (.there (.there .here))))))) | exact .there (.there (.there (.there (.there (.there (.there (.there (.there .here)))))))) | exact .there (.there (.there (.there (.there (.there (.there (.there (.there (.there .here))))))))) | exact .there (.there (.there (.there (.there (.there (.there (.there (.there (.there (.there .here))))))))))) (.cons (by first | exact .here | exact .there .here | exact .there (.there .here) | exact .there (.there (.there .here)) | exact .there (.there (.there (.there .here))) | exact .there (.there (.there (.there (.there .here)))) | exact .there (.there (.there (.there (.there (.there .here))))) | exact .there (.there (.there (.there (.there (.there (.there .here)))))) | exact .there (.there (.there (.there (.there (.there (.there (.there .here))))))) | exact .there (.there (.there (.there (.there (.there (.there (.there (.there .here)))))))) | exact .there (.there (.there (.there (.there (.there (.there (.there (.there (.there .here))))))))) | exact .there (.there (.there (.there (.there (.there (.there (.there (.there (.there (.there .here))))))))))) (.cons (by first | exact .here | exact .there .here | exact .there (.there .here) | exact .there (.there (.there .here)) | exact .there (.there (.there (.there .here))) | exact .there (.there (.there (.there (.there .here)))) | exact .there (.there (.there (.there (.there (.there .here))))) | exact .there (.there (.there (.there (.there (.there (.there .here)))))) | exact .there (.there (.there (.there (.there (.there (.there (.there .here))))))) | exact .there (.there (.there (.there (.there (.there (.there (.there (.there .here)))))))) | exact .there (.there (.there (.there (.there (.there (.there (.there (.there (.there .here))))))))) | exact .there (.there (.there (.there (.there (.there (.there (.there (.there (.there (.there .here))))))))))) .nil)) | exact .cons (by first | exact .here | exact .there .here | exact .there (.there .here) | exact .there (.there (.there .here)) | exact .there (.there (.there (.there .here))) | exact .there (.there (.there (.there (.there .here)))) | exact .there (.there (.there (.there (.there (.there .here))))) | exact .there (.there (.there (.there (.there (.there (.there .here)))))) | exact .there (.there (.there (.there (.there (.there (.there (.there .here))))))) | exact .there (.there (.there (.there (.there (.there (.there (.there (.there .here)))))))) | exact .there (.there (.there (.there (.there (.there (.there (.there (.there (.there .here))))))))) | exact .there (.there (.there (.there (.there (.there (.there (.there (.there (.there (.there .here))))))))))) (.cons (by first | exact .here | exact .there .here | exact .there (.there .here) | exact .there (.there (.there .here)) | exact .there (.there (.there (.there .here))) | exact .there (.there (.there (.there (.there .here)))) | exact .there (.there (.there (.there (.there (.there .here))))) | exact .there (.there (.there (.there (.there (.there (.there .here)))))) | exact .there (.there (.there (.there (.there (.there (.there (.there .here))))))) | exact .there (.there (.there (.there (.there (.there (.there (.there (.there .here)))))))) | exact .there (.there (.there (.there (.there (.there (.there (.there (.there (.there .here))))))))) | exact .there (.there (.there (.there (.there (.there (.there (.there (.there (.there (.there .here))))))))))) (.cons (by first | exact .here | exact .there .here | exact .there (.there .here) | exact .there (.there (.there .here)) | exact .there (.there (.there (.there .here))) | exact .there (.there (.there (.there (.there .here)))) | exact .there (.there (.there (.there (.there (.there .here))))) | exact .there (.there (.there (.there (.there (.there (.there .here)))))) | exact .there (.there (.there (.there (.there (.there (.there (.there .here))))))) | exact .there (.there (.there (.there (.there (.there (.there (.there (.there .here)))))))) | exact .there (.there (.there (.there (.there (.there (.there (.there (.there (.there .here))))))))) | exact .there (.there (.there (.there (.there (.there (.there (.there (.there (.there (.there .here))))))))))) (.cons (by first | exact .here | exact .there .here | exact .there (.there .here) | exact .there (.there (.there .here)) | exact .there (.there (.there (.there .here))) | exact .there (.there (.there (.there (.there .here)))) | exact .there (.there (.there (.there (.there (.there .here))))) | exact .there (.there (.there (.there (.there (.there (.there .here)))))) | exact .there (.there (.there (.there (.there (.there (.there (.there .here))))))) | exact .there (.there (.there (.there (.there (.there (.there (.there (.there .here)))))))) | exact .there (.there (.there (.there (.there (.there (.there (.there (.there (.there .here))))))))) | exact .there (.there (.there (.there (.there (.there (.there (.there (.there (.there (.there .here))))))))))) .nil))) | exact .cons (by first | exact .here | exact .there .here | exact .there (.there .here) | exact .there (.there (.there .here)) | exact .there (.there (.there (.there .here))) | exact .there (.there (.there (.there (.there .here)))) | exact .there (.there (.there (.there (.there (.there .here))))) | exact .there (.there (.there (.there (.there (.there (.there .here)))))) | exact .there (.there (.there (.there (.there (.there (.there (.there .here))))))) | exact .there (.there (.there (.there (.there (.there (.there (.there (.there .here)))))))) | exact .there (.there (.there (.there (.there (.there (.there (.there (.there (.there .here))))))))) | exact .there (.there (.there (.there (.there (.there (.there (.there (.there (.there (.there .here))))))))))) (.cons (by first | exact .here | exact .there .here | exact .there (.there .here) | exact .there (.there (.there .here)) | exact .there (.there (.there (.there .here))) | exact .there (.there (.there (.there (.there .here)))) | exact .there (.there (.there (.there (.there (.there .here))))) | exact .there (.there (.there (.there (.there (.there (.there .here)))))) | exact .there (.there (.there (.there (.there (.there (.there (.there .here))))))) | exact .there (.there (.there (.there (.there (.there (.there (.there (.there .here)))))))) | exact .there (.there (.there (.there (.there (.there (.there (.there (.there (.there .here))))))))) | exact .there (.there (.there (.there (.there (.there (.there (.there (.there (.there (.there .here))))))))))) (.cons (by first | exact .here | exact .there .here | exact .there (.there .here) | exact .there (.there (.there .here)) | exact .there (.there (.there (.there .here))) | exact .there (.there (.there (.there (.there .here)))) | exact .there (.there (.there (.there (.there (.there .here))))) | exact .there (.there (.there (.there (.there (.there (.there .here)))))) | exact .there (.there (.there (.there (.there (.there (.there (.there .here))))))) | exact .there (.there (.there (.there (.there (.there (.there (.there (.there .here)))))))) | exact .there (.there (.there (.there (.there (.there (.there (.there (.there (.there .here))))))))) | exact .there (.there (.there (.there (.there (.there (.there (.there (.there (.there (.there .here))))))))))) (.cons (by first | exact .here | exact .there .here | exact .there (.there .here) | exact .there (.there (.there .here)) | exact .there (.there (.there (.there .here))) | exact .there (.there (.there (.there (.there .here)))) | exact .there (.there (.there (.there (.there (.there .here))))) | exact .there (.there (.there (.there (.there (.there (.there .here)))))) | exact .there (.there (.there (.there (.there (.there (.there (.there .here))))))) | exact .there (.there (.there (.there (.there (.there (.there (.there (.there .here)))))))) | exact .there (.there (.there (.there (.there (.there (.there (.there (.there (.there .here))))))))) | exact .there (.there (.there (.there (.there (.there (.there (.there (.there (.there (.there .here))))))))))) (.cons (by first | exact .here | exact .there .here | exact .there (.there .here) | exact .there (.there (.there .here)) | exact .there (.there (.there (.there .here))) | exact .there (.there (.there (.there (.there .here)))) | exact .there (.there (.there (.there (.there (.there .here))))) | exact .there (.there (.there (.there (.there (.there (.there .here)))))) | exact .there (.there (.there (.there (.there (.there (.there (.there .here))))))) | exact .there (.there (.there (.there (.there (.there (.there (.there (.there .here)))))))) | exact .there (.there (.there (.there (.there (.there (.there (.there (.there (.there .here))))))))) | exact .there (.there (.there (.there (.there (.there (.there (.there (.there (.there (.there .here))))))))))) .nil)))) | exact .cons (by first | exact .here | exact .there .here | exact .there (.there .here) | exact .there (.there (.there .here)) | exact .there (.there (.there (.there .here))) | exact .there (.there (.there (.there (.there .here)))) | exact .there (.there (.there (.there (.there (.there .here))))) | exact .there (.there (.there (.there (.there (.there (.there .here)))))) | exact .there (.there (.there (.there (.there (.there (.there (.there .here))))))) | exact .there (.there (.there (.there (.there (.there (.there (.there (.there .here)))))))) | exact .there (.there (.there (.there (.there (.there (.there (.there (.there (.there .here))))))))) | exact .there (.there (.there (.there (.there (.there (.there (.there (.there (.there (.there .here))))))))))) (.cons (by first | exact .here | exact .there .here | exact .there (.there .here) | exact .there (.there (.there .here)) | exact .there (.there (.there (.there .here))) | exact .there (.there (.there (.there (.there .here)))) | exact .there (.there (.there (.there (.there (.there .here))))) | exact .there (.there (.there (.there (.there (.there (.there .here)))))) | exact .there (.there (.there (.there (.there (.there (.there (.there .here))))))) | exact .there (.there (.there (.there (.there (.there (.there (.there (.there .here)))))))) | exact .there (.there (.there (.there (.there (.there (.there (.there (.there (.there .here))))))))) | exact .there (.there (.there (.there (.there (.there (.there (.there (.there (.there (.there .here))))))))))) (.cons (by first | exact .here | exact .there .here | exact .there (.there .here) | exact .there (.there (.there .here)) | exact .there (.there (.there (.there .here))) | exact .there (.there (.there (.there (.there .here)))) | exact .there (.there (.there (.there (.there (.there .here))))) | exact .there (.there (.there (.there (.there (.there (.there .here)))))) | exact .there (.there (.there (.there (.there (.there (.there (.there .here))))))) | exact .there (.there (.there (.there (.there (.there (.there (.there (.there .here)))))))) | exact .there (.there (.there (.there (.there (.there (.there (.there (.there (.there .here))))))))) | exact .there (.there (.there (.there (.there (.there (.there (.there (.there (.there (.there .here))))))))))) (.cons (by first | exact .here | exact .there .here | exact .there (.there .here) | exact .there (.there (.there .here)) | exact .there (.there (.there (.there .here))) | exact .there (.there (.there (.there (.there .here)))) | exact .there (.there (.there (.there (.there (.there .here))))) | exact .there (.there (.there (.there (.there (.there (.there .here)))))) | exact .there (.there (.there (.there (.there (.there (.there (.there .here))))))) | exact .there (.there (.there (.there (.there (.there (.there (.there (.there .here)))))))) | exact .there (.there (.there (.there (.there (.there (.there (.there (.there (.there .here))))))))) | exact .there (.there (.there (.there (.there (.there (.there (.there (.there (.there (.there .here))))))))))) (.cons (by first | exact .here | exact .there .here | exact .there (.there .here) | exact .there (.there (.there .here)) | exact .there (.there (.there (.there .here))) | exact .there (.there (.there (.there (.there .here)))) | exact .there (.there (.there (.there (.there (.there .here))))) | exact .there (.there (.there (.there (.there (.there (.there .here)))))) | exact .there (.there (.there (.there (.there (.there (.there (.there .here))))))) | exact .there (.there (.there (.there (.there (.there (.there (.there (.there .here)))))))) | exact .there (.there (.there (.there (.there (.there (.there (.there (.there (.there .here))))))))) | exact .there (.there (.there (.there (.there (.there (.there (.there (.there (.there (.there .here))))))))))) (.cons (by first | exact .here | exact .there .here | exact .there (.there .here) | exact .there (.there (.there .here)) | exact .there (.there (.there (.there .here))) | exact .there (.there (.there (.there (.there .here)))) | exact .there (.there (.there (.there (.there (.there .here))))) | exact .there (.there (.there (.there (.there (.there (.there .here)))))) | exact .there (.there (.there (.there (.there (.there (.there (.there .here))))))) | exact .there (.there (.there (.there (.there (.there (.there (.there (.there .here)))))))) | exact .there (.there (.there (.there (.there (.there (.there (.there (.there (.there .here))))))))) | exact .there (.there (.there (.there (.there (.there (.there (.there (.there (.there (.there .here))))))))))) .nil))))) | exact .cons (by first | exact .here | exact .there .here | exact .there (.there .here) | exact .there (.there (.there .here)) | exact .there (.there (.there (.there .here))) | exact .there (.there (.there (.there (.there .here)))) | exact .there (.there (.there (.there (.there (.there .here))))) | exact .there (.there (.there (.there (.there (.there (.there .here)))))) | exact .there (.there (.there (.there (.there (.there (.there (.there .here))))))) | exact .there (.there (.there (.there (.there (.there (.there (.there (.there .here)))))))) | exact .there (.there (.there (.there (.there (.there (.there (.there (.there (.there .here))))))))) | exact .there (.there (.there (.there (.there (.there (.there (.there (.there (.there (.there .here))))))))))) (.cons (by first | exact .here | exact .there .here | exact .there (.there .here) | exact .there (.there (.there .here)) | exact .there (.there (.there (.there .here))) | exact .there (.there (.there (.there (.there .here)))) | exact .there (.there (.there (.there (.there (.there .here))))) | exact .there (.there (.there (.there (.there (.there (.there .here)))))) | exact .there (.there (.there (.there (.there (.there (.there (.there .here))))))) | exact .there (.there (.there (.there (.there (.there (.there (.there (.there .here)))))))) | exact .there (.there (.there (.there (.there (.there (.there (.there (.there (.there .here))))))))) | exact .there (.there (.there (.there (.there (.there (.there (.there (.there (.there (.there .here))))))))))) (.cons (by first | exact .here | exact .there .here | exact .there (.there .here) | exact .there (.there (.there .here)) | exact .there (.there (.there (.there .here))) | exact .there (.there (.there (.there (.there .here)))) | exact .there (.there (.there (.there (.there (.there .here))))) | exact .there (.there (.there (.there (.there (.there (.there .here)))))) | exact .there (.there (.there (.there (.there (.there (.there (.there .here))))))) | exact .there (.there (.there (.there (.there (.there (.there (.there (.there .here)))))))) | exact .there (.there (.there (.there (.there (.there (.there (.there (.there (.there .here))))))))) | exact .there (.there (.there (.there (.there (.there (.there (.there (.there (.there (.there .here))))))))))) (.cons (by first | exact .here | exact .there .here | exact .there (.there .here) | exact .there (.there (.there .here)) | exact .there (.there (.there (.there .here))) | exact .there (.there (.there (.there (.there .here)))) | exact .there (.there (.there (.there (.there (.there .here))))) | exact .there (.there (.there (.there (.there (.there (.there .here)))))) | exact .there (.there (.there (.there (.there (.there (.there (.there .here))))))) | exact .there (.there (.there (.there (.there (.there (.there (.there (.there .here)))))))) | exact .there (.there (.there (.there (.there (.there (.there (.there (.there (.there .here))))))))) | exact .there (.there (.there (.there (.there (.there (.there (.there (.there (.there (.there .here))))))))))) (.cons (by first | exact .here | exact .there .here | exact .there (.there .here) | exact .there (.there (.there .here)) | exact .there (.there (.there (.there .here))) | exact .there (.there (.there (.there (.there .here)))) | exact .there (.there (.there (.there (.there (.there .here))))) | exact .there (.there (.there (.there (.there (.there (.there .here)))))) | exact .there (.there (.there (.there (.there (.there (.there (.there .here))))))) | exact .there (.there (.there (.there (.there (.there (.there (.there (.there .here)))))))) | exact .there (.there (.there (.there (.there (.there (.there (.there (.there (.there .here))))))))) | exact .there (.there (.there (.there (.there (.there (.there (.there (.there (.there (.there .here))))))))))) (.cons (by first | exact .here | exact .there .here | exact .there (.there .here) | exact .there (.there (.there .here)) | exact .there (.there (.there (.there .here))) | exact .there (.there (.there (.there (.there .here)))) | exact .there (.there (.there (.there (.there (.there .here))))) | exact .there (.there (.there (.there (.there (.there (.there .here)))))) | exact .there (.there (.there (.there (.there (.there (.there (.there .here))))))) | exact .there (.there (.there (.there (.there (.there (.there (.there (.there .here)))))))) | exact .there (.there (.there (.there (.there (.there (.there (.there (.there (.there .here))))))))) | exact .there (.there (.there (.there (.there (.there (.there (.there (.there (.there (.there .here))))))))))) (.cons (by first | exact .here | exact .there .here | exact .there (.there .here) | exact .there (.there (.there .here)) | exact .there (.there (.there (.there .here))) | exact .there (.there (.there (.there (.there .here)))) | exact .there (.there (.there (.there (.there (.there .here))))) | exact .there (.there (.there (.there (.there (.there (.there .here)))))) | exact .there (.there (.there (.there (.there (.there (.there (.there .here))))))) | exact .there (.there (.there (.there (.there (.there (.there (.there (.there .here)))))))) | exact .there (.there (.there (.there (.there (.there (.there (.there (.there (.there .here))))))))) | exact .there (.there (.there (.there (.there (.there (.there (.there (.there (.there (.there .here))))))))))) .nil))))))) : St β F L X := st_pick r k
/-- A call by its contract: what it takes is found. -/
theorem call {f : FuncId} {xs : List Operand} {ats : Array TypeId} {vs : List Value} {Lc : List SP} {R : Value → List SP → Prop} {d : Nat} [c : Cal P f] (hc : C P f vs Lc R)
    (k : ∀ v L', R v L' → St β F (L' ++ M) (WO P n ops rest ((d, v) :: E) K))
    (ho : o.op = .call { callee := .value (.func f), args := xs.toArray, argTypes := ats } := by rfl) (hv : evs E xs = some vs := by rfl)
    (r : autoParam (Rems Lc L M) pick._auto_1)
    (hg : wantedE ops E o = some true := by rfl) (hd : o.dst = some d := by rfl) (hn : Nat.blt d n = true := by rfl) : St β F L (WO P n ops (o :: rest) E K) := WO_call ho hv hc r hg hd hn k
/-- A call that only looks, among operations whose order is open. -/
theorem callQ {f : FuncId} {xs : List Operand} {ats : Array TypeId} {vs : List Value} {Lc : List SP} {d : Nat} {K : Env → Prop} [c : Cal P f] (hc : C P f vs Lc (fun v' L' => v' = v ∧ L' = Lc))
    (k : WQ P β F L n ops rest ((d, v) :: E) K)
    (ho : o.op = .call { callee := .value (.func f), args := xs.toArray, argTypes := ats } := by rfl) (hv : evs E xs = some vs := by rfl)
    (r : autoParam (Rems Lc L M) pick._auto_1)
    (hg : wantedE ops E o = some true := by rfl) (hd : o.dst = some d := by rfl) (hn : Nat.blt d n = true := by rfl) : WQ P β F L n ops (o :: rest) E K := WQ_q (q_call ho hv hc r) hg hd hn k
end
end Go.Sl
