/- A round of a range over a function: what is walked in a plain fence is walked in a round's, region by region: at the widest fence, where no operation is a defer statement. No function of the program is named here. -/
import Derived.Test.YtjdpgakkphdjlaaGreatDoorMem
import Derived.RangeFuncNested
import Derived.RangeFuncBound
import Derived.RangeFuncCalls
import Derived.RangeFuncLeaves
import Derived.OwnWalkIn
import Derived.TacticsInMore
import Derived.LoopIn
import Derived.OrdersIn
import Derived.OrdersHeld
import Derived.Deep.RegionHeld3
import Derived.BigQuiet
import Derived.Deep.QuietTactic
import Derived.StillTailTactics
namespace Go.Proofs.YtjdpgakkphdjlaaGreatDoor
open Go.RowKit

section
variable {P : Program} {ops : Array Oper} {Q : Exit → Act → World → Prop} {md : Region.Mode} {l n : Nat}
theorem upon_inR {o : Oper} {a : Act} {next : Act → World → Prop} : ∀ {r : Result Next}, o.upon P a next Q r → o.uponIn (Fence.wide.inRound l) n P a next Q r
  | .ok (.value _) _, h => h
  | .ok .skip _, h => h
  | .ok (.defer _) _, h => h
  | .ok (.enter _ _) _, h => ⟨fun h' => (by cases h'), callsIn_wide.2 h⟩
  | .ok (.row _ _) _, h => ⟨fun h' => (by cases h'), fun c cs _ => let ⟨v, w', r, s⟩ := h c cs; ⟨v, w', r, stepsIn_wide.2 s⟩⟩
  | .ok (.round ..) _, h => h.elim
  | .halt (.panic _) _, h => h
  | .halt .blocked _, h => h.elim
  | .halt .waiting _, h => h.elim
  | .halt (.unsupported _) _, h => h.elim
  | .halt (.exit _) _, h => h.elim
def noDefer (o : Oper) : Bool := match o.op with
  | .defer _ => false
  | _ => true
theorem noDefer_spec {o : Oper} (h : noDefer o = true) : ∀ c, o.op ≠ .defer c := fun c e => by unfold noDefer at h; rw [e] at h; cases h
theorem oper_inR {o : Oper} {a : Act} {w : World} {K : Act → World → Prop} (hd : noDefer o = true) (h : o.wp P a w K Q) : o.wpIn (Fence.wide.inRound l) n P a w K Q :=
  ⟨fun _ _ => trivial, by rw [Oper.semAt_eq _ _ _ (noDefer_spec hd)]; exact upon_inR h⟩
theorem wpOp_inR {i : Nat} {K : Act → World → Prop} {a : Act} {w : World} (hd : ops.all noDefer = true) (hL : ∀ a w, ¬ Q .outgrown a w) (h : wpOp P ops Q i K a w) : wpOpIn (Fence.wide.inRound l) n P ops Q i K a w := by
  unfold wpOp at h
  unfold wpOpIn
  cases ho : ops[i]? with
  | none => simpa [ho] using h
  | some o =>
    simp only [ho] at h ⊢
    have hn : noDefer o = true := by
      obtain ⟨hi, e⟩ := Array.getElem?_eq_some_iff.1 ho
      have := Array.all_eq_true.1 hd i hi
      rwa [e] at this
    by_cases hw : Region.wanted o (yielded ops a.tmps) = true
    · rw [if_pos hw] at h ⊢
      rcases h with h | ⟨_, a', w', h⟩
      · exact oper_inR hn h
      · exact absurd h (hL a' w')
    · rw [if_neg hw] at h ⊢
      exact ⟨fun _ _ => trivial, h⟩
theorem wpAny_inR (hd : ops.all noDefer = true) (hL : ∀ a w, ¬ Q .outgrown a w) : ∀ (fuel : Nat) (listed : Array Bool) (a : Act) (w : World), wpAny P md ops Q fuel listed a w → wpAnyIn (Fence.wide.inRound l) n P md ops Q fuel listed a w
  | 0, _, _, _, h => h
  | fuel + 1, _, _, _, h => ⟨h.1, fun i hi => wpOpIn_mono (fun a' w' h' => wpAny_inR hd hL fuel _ a' w' h') (wpOp_inR hd hL (h.2 i hi))⟩
/-- A region of a round that draws its order: by the moves of Derived/OrdersHeld.lean. -/
theorem region_inR {id : Nat} {S : World → Prop} {a : Act} {w : World} (hm : P.follows .mixedOrders = true) (hd : ops.all noDefer = true) (hL : ∀ a w, ¬ Q .outgrown a w)
    (h : wpAnyH P .any ops Q S ops.size (Array.replicate ops.size false) a { w with drawn := w.drawn + 1 }) : (Code.region id ops true).wpIn (Fence.wide.inRound l) n P Q a w :=
  wpIn_region_any hm (wpAny_inR hd hL _ _ _ _ (wpAny_of_held _ _ _ _ h))
/-- .. one that only reads: by one walk. -/
theorem region_inR_quiet {id : Nat} {a : Act} {w : World} {ls : List Oper} (hm : P.follows .mixedOrders = true) (hB : Region.lexB .any ls.toArray = true) (hd : ls.toArray.all noDefer = true) (hL : ∀ a w, ¬ Q .outgrown a w)
    (h : wpQuiet P ls.toArray (fun w' => ∃ n, w' = w.drewN n) (fun a' => ∀ w', (∃ n, w' = w.drewN n) → Q .normal a' w') ls a) : (Code.region id ls.toArray true).wpIn (Fence.wide.inRound l) n P Q a w := by
  simp only [Region.lexB, Bool.and_eq_true] at hB
  refine wpIn_region_any hm (wpAny_inR hd hL _ _ _ _ (wpAny_of_quiet (C := fun w' => ∃ n, w' = w.drewN n) (Q := fun a' => ∀ w', (∃ n, w' = w.drewN n) → Q .normal a' w') (fun _ w' hw' h => h w' hw') _ _ _ _ ⟨1, rfl⟩ ?_))
  have := wpAnyQ_lex (C := fun w' => ∃ n, w' = w.drewN n) (md := .any) hB.1 ls.toArray.toList 0 (Array.replicate ls.toArray.size false) a (by simp) (by simpa using hB.2) (by simpa using h)
  simpa using this
theorem wpList_inR (hL : ∀ a w, ¬ Q .outgrown a w) : ∀ (ls : List Oper) (a : Act) (w : World), ls.all noDefer = true → wpList P ops Q ls a w → wpListIn (Fence.wide.inRound l) n P ops Q ls a w
  | [], _, _, _, h => h
  | o :: ls, a, w, hd, h => by
    have hd' : noDefer o = true ∧ ls.all noDefer = true := by simpa using hd
    unfold wpList at h
    unfold wpListIn
    by_cases hw : Region.wanted o (yielded ops a.tmps) = true
    · rw [if_pos hw] at h ⊢
      rcases h with h | ⟨_, a', w', h⟩
      · exact Oper.wpIn_mono (fun a' w' h' => wpList_inR hL ls a' w' hd'.2 h') (oper_inR hd'.1 h)
      · exact absurd h (hL a' w')
    · rw [if_neg hw] at h ⊢
      exact ⟨fun _ _ => trivial, wpList_inR hL ls _ _ hd'.2 h⟩
/-- A plain region of a round. -/
theorem plain_inR {id : Nat} {a : Act} {w : World} {ls : List Oper} (hd : ls.all noDefer = true) (hL : ∀ a w, ¬ Q .outgrown a w) (h : wpList P ls.toArray Q ls a w) : (Code.region id ls.toArray false).wpIn (Fence.wide.inRound l) n P Q a w :=
  wpIn_region_lit (wpList_inR hL ls a w hd h)
end

/-! ### A region whose last operations store into what it has loaded: loads go first, held till the store that turns their cell has come up. C says what is held, by what has come up. -/
section
variable {P : Program} {ops : Array Oper} {Q : Exit → Act → World → Prop} {md : Region.Mode} {C : Array Bool → World → Prop}
def wpTill (P : Program) (md : Region.Mode) (ops : Array Oper) (Q : Exit → Act → World → Prop) (C : Array Bool → World → Prop) : Nat → Array Bool → Act → World → Prop
  | 0, listed, a, w => Region.ready md ops listed = [] ∧ Q .normal a w
  | fuel + 1, listed, a, w => (Region.ready md ops listed = [] → Q .normal a w) ∧
    ∀ i ∈ Region.ready md ops listed, wpOp P ops Q i (fun a' w' => C (listed.setIfInBounds i true) w' ∧ wpTill P md ops Q C fuel (listed.setIfInBounds i true) a' w') a w
theorem wpAny_of_till : ∀ (fuel : Nat) (listed : Array Bool) (a : Act) (w : World), wpTill P md ops Q C fuel listed a w → wpAny P md ops Q fuel listed a w
  | 0, _, _, _, h => h
  | fuel + 1, _, _, _, h => ⟨h.1, fun i hi => wpOp_mono (fun a' w' h' => wpAny_of_till fuel _ a' w' h'.2) (h.2 i hi)⟩
/-- Number d waits for number i. -/
def waits (md : Region.Mode) (ops : Array Oper) (d i : Nat) : Bool := match ops[d]? with
  | some o => o.after.any fun e => Region.binds md e && e.on == i
  | none => false
theorem waits_spec {d i : Nat} {listed : Array Bool} (hw : waits md ops d i = true) (hi : listed.getD i false = false) : d ∉ Region.ready md ops listed := by
  intro hd
  obtain ⟨_, o, ho, hall⟩ := mem_ready.1 hd
  unfold waits at hw
  simp only [ho, Array.any_eq_true, Bool.and_eq_true, beq_iff_eq] at hw
  obtain ⟨j, hj, hb, he⟩ := hw
  have := hall _ (Array.getElem_mem hj) hb
  rw [he, hi] at this
  cases this
theorem ready_unlisted {i : Nat} {listed : Array Bool} (h : i ∈ Region.ready md ops listed) : listed.getD i false = false := by
  have h0 := (mem_ready.1 h).1
  rcases Nat.lt_or_ge i listed.size with h' | h'
  · simp [h'] at h0 ⊢; exact h0
  · simp [Array.getElem?_eq_none h'] at h0
theorem wpTill_first {i d : Nat} {oi : Oper} {v : Value} {S : World → Prop} (hi : ops[i]? = some oi) (hsel : ∀ (j : Nat) (o : Oper) cs b, ops[j]? = some o → o.op ≠ .select cs b)
    (hQ : ∀ c a w, Q (.panic c) (a.put oi.dst v) w → Q (.panic c) a w) (hwt : waits md ops d i = true) (hdi : d ≠ i)
    (hlink : ∀ (L : Array Bool) w', L.getD d false = false → C L w' → S w') (hinv : ∀ (L : Array Bool) w', C (L.setIfInBounds i true) w' → C L w') :
    ∀ (fuel : Nat) (listed : Array Bool) (a : Act) (w : World), listed.getD d false = false →
      (∀ j oj, ops[j]? = some oj → j ≠ i → listed.getD j true = false → (∀ e ∈ oj.after, Region.binds md e = true → e.on ≠ i) → oi.apart ops oj = true) →
      i ∈ Region.ready md ops listed → YieldsIf P ops S oi v a → C (listed.setIfInBounds i true) w →
      wpTill P md ops Q C fuel (listed.setIfInBounds i true) (a.put oi.dst v) w → wpTill P md ops Q C (fuel + 1) listed a w := by
  intro fuel
  induction fuel with
  | zero =>
    intro listed a w hd _ hr hy hS H
    refine ⟨fun h => absurd hr (by rw [h]; exact List.not_mem_nil), fun j hj => ?_⟩
    have hji : j = i := by
      by_cases e : j = i
      · exact e
      · have := ready_mono hj e
        rw [H.1] at this
        exact absurd this List.not_mem_nil
    subst hji
    exact hy.wpOp hi (hlink _ _ (by rw [getD_set_ne false (Ne.symm hdi)]; exact hd) hS) ⟨hS, H⟩
  | succ fuel ih =>
    intro listed a w hd hfree hr hy hS H
    have hSw := hlink _ _ (by rw [getD_set_ne false (Ne.symm hdi)]; exact hd) hS
    refine ⟨fun h => absurd hr (by rw [h]; exact List.not_mem_nil), fun j hj => ?_⟩
    by_cases hji : j = i
    · subst hji; exact hy.wpOp hi hSw ⟨hS, H⟩
    have hun := ready_unlisted hr
    have hjd : j ≠ d := fun e => waits_spec hwt hun (e ▸ hj)
    obtain ⟨hjun, oj, hoj, hall⟩ := mem_ready.1 hj
    have hnot : ∀ e ∈ oj.after, Region.binds md e = true → e.on ≠ i := fun e he hb heq => by
      have := hall e he hb
      rw [heq, hun] at this
      cases this
    have h2 := wpOp_putIf hoj (hfree j oj hoj hji hjun hnot) (fun cs b => hsel i oi cs b hi) (fun cs b => hsel j oj cs b hoj) hQ hy (H.2 j (ready_mono hj hji))
    refine wpOp_mono (fun a' w' h3 => ?_) h2
    obtain ⟨hy3, hS3, h4⟩ := h3
    have hd2 : (listed.setIfInBounds j true).getD d false = false := by rw [getD_set_ne false hjd]; exact hd
    rw [Array.setIfInBounds_comm _ _ (Ne.symm hji)] at hS3
    refine ⟨hinv _ _ hS3, ih (listed.setIfInBounds j true) a' w' hd2 (fun k ok hk hki hu hno => ?_) (ready_mono hr (Ne.symm hji)) hy3 hS3 ?_⟩
    · refine hfree k ok hk hki ?_ hno
      by_cases hjk : j = k
      · subst hjk; exact hjun
      · rwa [getD_set_ne true hjk] at hu
    · rw [Array.setIfInBounds_comm _ _ hji]; exact h4
theorem wpTill_take {d i : Nat} {oi : Oper} {v : Value} {S : World → Prop} {fuel : Nat} {listed : Array Bool} {a : Act} {w : World} (hi : ops[i]? = some oi) (hs : Region.noSelect ops = true)
    (hc : (waits md ops d i && (d != i) && (listed.getD d false == false)) = true) (hf : Region.free md ops listed i = true) (hr : (Region.ready md ops listed).contains i = true)
    (hQ : ∀ c a w, Q (.panic c) (a.put oi.dst v) w → Q (.panic c) a w)
    (hlink : ∀ (L : Array Bool) w', L.getD d false = false → C L w' → S w') (hinv : ∀ (L : Array Bool) w', C (L.setIfInBounds i true) w' → C L w')
    (hC : C (listed.setIfInBounds i true) w) (hy : YieldsIf P ops S oi v a)
    (h : wpTill P md ops Q C fuel (listed.setIfInBounds i true) (a.put oi.dst v) w) : wpTill P md ops Q C (fuel + 1) listed a w := by
  simp only [Bool.and_eq_true, bne_iff_ne, ne_eq, beq_iff_eq] at hc
  exact wpTill_first hi (Region.noSelect_spec hs) hQ hc.1.1 hc.1.2 hlink hinv fuel listed a w hc.2 (Region.free_spec hi hf) (by simpa using hr) hy hC h
theorem wpTill_done {listed : Array Bool} {a : Act} {w : World} (hr : Region.ready md ops listed = []) (h : Q .normal a w) : ∀ fuel, wpTill P md ops Q C fuel listed a w
  | 0 => ⟨hr, h⟩
  | _ + 1 => ⟨fun _ => h, by rw [hr]; simp⟩
def TillAll (P : Program) (md : Region.Mode) (ops : Array Oper) (Q : Exit → Act → World → Prop) (C : Array Bool → World → Prop) (fuel : Nat) (listed : Array Bool) (a : Act) (w : World) (rs : List Nat) : Prop :=
  ∀ i ∈ rs, wpOp P ops Q i (fun a' w' => C (listed.setIfInBounds i true) w' ∧ wpTill P md ops Q C fuel (listed.setIfInBounds i true) a' w') a w
theorem wpTill_ready {rs : List Nat} {fuel : Nat} {listed : Array Bool} {a : Act} {w : World} (hr : Region.ready md ops listed = rs) (hne : rs ≠ [])
    (h : TillAll P md ops Q C fuel listed a w rs) : wpTill P md ops Q C (fuel + 1) listed a w := ⟨fun h0 => absurd (hr ▸ h0) hne, hr ▸ h⟩
theorem TillAll.nil {fuel : Nat} {listed : Array Bool} {a : Act} {w : World} : TillAll P md ops Q C fuel listed a w [] := fun _ h => absurd h List.not_mem_nil
theorem TillAll.cons {fuel : Nat} {listed : Array Bool} {a : Act} {w : World} {i : Nat} {o : Oper} {rs : List Nat} (ho : ops[i]? = some o)
    (h : ∀ K' : Act → World → Prop, Shut (∀ a w, C (listed.setIfInBounds i true) w → wpTill P md ops Q C fuel (listed.setIfInBounds i true) a w → K' a w) → if Region.wanted o (yielded ops a.tmps) = true then Oper.wp P o a w K' Q else K' (a.put o.dst undef) w)
    (hs : TillAll P md ops Q C fuel listed a w rs) : TillAll P md ops Q C fuel listed a w (i :: rs) := fun j hj => by
  rcases List.mem_cons.1 hj with rfl | hj
  · exact wpOp_step ho (fun K' hK => h K' (fun a w hS hW => hK a w ⟨hS, hW⟩))
  · exact hs j hj
theorem region_till {id : Nat} {a : Act} {w : World} (C : Array Bool → World → Prop) (hm : P.follows .mixedOrders = true) (h : wpTill P .any ops Q C ops.size (Array.replicate ops.size false) a { w with drawn := w.drawn + 1 }) : (Code.region id ops true).wp P Q a w :=
  wp_region_any hm (wpAny_of_till _ _ _ _ h)
theorem region_inR_till {l n : Nat} {id : Nat} {a : Act} {w : World} (C : Array Bool → World → Prop) (hm : P.follows .mixedOrders = true) (hd : ops.all noDefer = true) (hL : ∀ a w, ¬ Q .outgrown a w)
    (h : wpTill P .any ops Q C ops.size (Array.replicate ops.size false) a w.drew) : (Code.region id ops true).wpIn (Fence.wide.inRound l) n P Q a w :=
  wpIn_region_any hm (wpAny_inR hd hL _ _ _ _ (wpAny_of_till _ _ _ _ h))
end

/-! ### A function that ranges over functions in a loop: the marks among its deferred calls. -/
def Marked (B : Nat) (w : World) : List Deferred → Prop
  | [] => True
  | d :: ds => ∃ r, d = { target := .collected r, args := #[] } ∧ B ≤ r ∧ w.heap[r]? = some (.deferred (some [])) ∧ (∀ r', ({ target := .collected r', args := #[] } : Deferred) ∈ ds → r' ≠ r) ∧ Marked B w ds
theorem Marked.lt {B : Nat} {w : World} : ∀ {ds : List Deferred}, Marked B w ds → ∀ r, ({ target := .collected r, args := #[] } : Deferred) ∈ ds → r < w.heap.size
  | [], _, _, h => absurd h List.not_mem_nil
  | d :: ds, h, r, hr => by
    obtain ⟨q, rfl, _, hq, _, hm⟩ := h
    rcases List.mem_cons.1 hr with e | hr
    · injection e with e1
      injection e1 with e2
      subst e2
      exact (Array.getElem?_eq_some_iff.1 hq).1
    · exact hm.lt r hr
theorem Marked.kept {B : Nat} {w w' : World} (hk : KeepsOthers w w') : ∀ {ds : List Deferred}, Marked B w ds → Marked B w' ds
  | [], _ => trivial
  | _ :: _, h => by
    obtain ⟨q, e, hb, hq, hn, hm⟩ := h
    exact ⟨q, e, hb, hk.same q _ hq rfl, hn, hm.kept hk⟩
theorem Marked.cons {B : Nat} {w0 w : World} {ds : List Deferred} {D : Nat} (h0 : Marked B w0 ds) (h : Marked B w ds) (hD : w0.heap.size ≤ D) (hB : B ≤ D) (hK : w.heap[D]? = some (.deferred (some []))) :
    Marked B w ({ target := .collected D, args := #[] } :: ds) :=
  ⟨D, rfl, hB, hK, fun r' hr => by have := h0.lt r' hr; omega, h⟩
/-- What lay below B lies as it lay, and so does every block of cells. -/
def CellsKept (B : Nat) (w w' : World) : Prop := Below B w w' ∧ ∀ (k : Nat) (o : Obj), w.heap[k]? = some o → o.isCells = true → w'.heap[k]? = some o
theorem CellsKept.refl (B : Nat) (w : World) : CellsKept B w w := ⟨Below.refl _ _, fun _ _ h _ => h⟩
theorem CellsKept.own {B : Nat} {w w' : World} (h : CellsKept B w w') {base size : Nat} {e : TypeId} {v : Value} {k : Nat} {xs : List Value} (ho : w.ownsRow base e size v k xs) : w'.ownsRow base e size v k xs := by
  refine ⟨ho.1, ?_⟩
  rcases ho.2 with h0 | ⟨g, cap, cur, hv, hg, hh, r⟩
  · exact .inl h0
  · exact .inr ⟨g, cap, cur, hv, hg, h.2 g _ hh rfl, r⟩
theorem Marked.put {B : Nat} {w : World} {D : Nat} (o : Obj) : ∀ {ds : List Deferred}, Marked B w ds → (∀ r', ({ target := .collected r', args := #[] } : Deferred) ∈ ds → r' ≠ D) → Marked B (w.putObj D o) ds
  | [], _, _ => trivial
  | _ :: _, h, hne => by
    obtain ⟨q, rfl, hb, hq, hn, hm⟩ := h
    exact ⟨q, rfl, hb, (World.putObj_heap_other (hne q (by simp))).trans hq, hn, hm.put o fun r' hr => hne r' (List.mem_cons_of_mem _ hr)⟩
theorem leaves_marked {F : Fence} {n : Nat} {P : Program} {fn : Func} {tmps : Array Value} {R : Ending → World → Prop} {B : Nat} : ∀ {ds : List Deferred} {w : World}, B ≤ w.heap.size → Marked B w ds →
    (∀ w', CellsKept B w w' → LeavesInM F n P fn tmps R [] .returning w') → LeavesInM F n P fn tmps R ds .returning w
  | [], w, _, _, h => h w (CellsKept.refl _ _)
  | _ :: ds, w, hB, hm, h => by
    obtain ⟨q, rfl, hb, hq, hn, hm⟩ := hm
    refine ⟨by simp, .inl ⟨q, _, rfl, run_takeDeferred hq, ?_⟩⟩
    have hlt := (Array.getElem?_eq_some_iff.1 hq).1
    refine leaves_marked (by simpa using hB) (hm.put _ hn) fun w' hk => h w' ⟨?_, fun k o hk1 hc => ?_⟩
    · exact ((Below.refl B w).grown (grownBy_putObj' w q _) hB (fun k e => by cases e; exact hb)).trans hk.1
    · refine hk.2 k o ?_ hc
      refine (World.putObj_heap_other fun e => ?_).trans hk1
      subst e
      rw [hq] at hk1; injection hk1 with hk1; subst hk1; exact absurd hc (by simp [Obj.isCells])
end Go.Proofs.YtjdpgakkphdjlaaGreatDoor
/- A region of a round that draws its order, reads, and stores at its end: by one walk. No function of the program is named here. -/
namespace Go.Proofs.YtjdpgakkphdjlaaGreatDoor
open Go.RowKit

theorem region_inR_still_tail {P : Program} {Q : Exit → Act → World → Prop} {r l : Nat} {id : Nat} {a : Act} {w : World} {ls : List Oper} (n : Nat) (hm : P.follows .mixedOrders = true) (hB : Region.lexTailB .any ls.toArray n = true)
    (hd : ls.toArray.all noDefer = true) (hL : ∀ a w, ¬ Q .outgrown a w)
    (h : wpStill P ls.toArray w.drew (fun a' => wpList P ls.toArray Q (ls.drop n) a' w.drew) (ls.take n) a) : (Code.region id ls.toArray true).wpIn (Fence.wide.inRound r) l P Q a w := by
  simp only [Region.lexTailB, Bool.and_eq_true, decide_eq_true_eq] at hB
  obtain ⟨⟨⟨⟨hsel, hn⟩, hs⟩, hc⟩, hlex⟩ := hB
  have hn' : n < ls.length := by simpa using hn
  have htl : (ls.take n).length = n := by simp; omega
  have hdl : (ls.drop n).length = ls.toArray.size - n := by simp
  have inv0 : HeadInv .any ls.toArray n (Array.replicate ls.toArray.size false) :=
    ⟨by simp, fun j oj _ hl => (by rw [getD_replicate_false] at hl; cases hl), fun t _ ht => getD_in (by simpa using ht) (getD_replicate_false _ _)⟩
  have H := wpAnyL_lex (md := .any) (g := ls.toArray.size - n) hsel hs hc hn (ls.take n) 0 _ a (fun j hj => by
    have hj' : j < n := by rw [htl] at hj; exact hj
    simp [hj']) (by simpa using htl) inv0 (by rw [htl]; exact hlex) h
  refine wpIn_region_any hm (wpAny_inR hd hL _ _ _ _ ?_)
  have := wpAny_of_head (Q' := Q) (g := ls.toArray.size - n) (fun listed a' hL => by
    have := wpAny_of_seq (md := .any) (Q' := Q) (ls.drop n) n listed a' w.drew (fun j => by simp [List.getElem?_drop]) (by rw [hdl]; exact hL.1) hL.2
    rwa [hdl] at this) _ _ _ H
  rw [htl, show n + (ls.toArray.size - n) = ls.toArray.size by omega] at this
  exact this
end Go.Proofs.YtjdpgakkphdjlaaGreatDoor
