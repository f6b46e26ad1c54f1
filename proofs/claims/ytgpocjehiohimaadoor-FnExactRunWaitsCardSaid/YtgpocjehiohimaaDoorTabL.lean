/- Plain laws on tables: taking twice, taking all. -/
import Derived.Test.YtgpocjehiohimaaDoorTabP
namespace Go.Proofs.YtgpocjehiohimaaDoor

/-- The lock is held, as strong as asked for. -/
def Cov (l : List Lk) (x : Lk) : Prop := OkAsk x.who x.node x.mode ∧ strF (heldF l x.who x.node) x.mode = true

theorem grantF_same {l : List Lk} {who node mode : Int} (h0 : heldF l who node ≠ 0) (hj : joinF (heldF l who node) mode = heldF l who node) : grantF l who node mode = l := by
  induction l with
  | nil => exact absurd rfl h0
  | cons x r ih =>
    rw [grantF]
    by_cases h : x.who = who ∧ x.node = node
    · rw [if_pos h]
      have e : heldF (x :: r) who node = x.mode := by rw [heldF, if_pos h]
      rw [e] at hj
      rw [hj]
      obtain ⟨a, b, c⟩ := x
      obtain ⟨h1, h2⟩ := h
      simp only at h1 h2
      rw [h1, h2]
    · rw [if_neg h]
      have e : heldF (x :: r) who node = heldF r who node := by rw [heldF, if_neg h]
      rw [e] at h0 hj
      rw [ih h0 hj]

theorem takeF_again {l : List Lk} {x : Lk} (h : VTb l) (hc : Cov l x) : takeF l x.who x.node x.mode = some l := by
  obtain ⟨ha, hs⟩ := hc
  have hj := strF_join_of hs
  have h0 : heldF l x.who x.node ≠ 0 := by
    intro h0
    rw [h0, joinF_zero ha.isM] at hj
    have := ha.2.2.1
    omega
  rw [takeF_yes h ha, grantF_same h0 hj]
  rw [hj]
  exact blkF_nil_of fun t h1 h2 h3 => heldF_tog h h3

/-- l' holds all that l holds. -/
def More (l l' : List Lk) : Prop := ∀ a b, strF (heldF l' a b) (heldF l a b) = true
theorem More.refl {l : List Lk} (h : VTb l) : More l l := fun a b => strF_refl (heldF_isM h a b)
theorem More.trans {l l' l'' : List Lk} (h : VTb l) (h' : VTb l') (h'' : VTb l'') (h1 : More l l') (h2 : More l' l'') : More l l'' :=
  fun a b => strF_trans (heldF_isM h'' a b) (heldF_isM h' a b) (heldF_isM h a b) (h2 a b) (h1 a b)
theorem Cov.more {l l' : List Lk} {x : Lk} (h : VTb l) (h' : VTb l') (hc : Cov l x) (hm : More l l') : Cov l' x :=
  ⟨hc.1, strF_trans (heldF_isM h' _ _) (heldF_isM h _ _) hc.1.isM (hm _ _) hc.2⟩
theorem takeF_more {l l' : List Lk} {who node mode : Int} (h : takeF l who node mode = some l') : More l l' ∧ Cov l' ⟨who, node, mode⟩ := by
  obtain ⟨h1, h2, h3, rfl⟩ := takeF_some h
  have hm := heldF_isM h1
  refine ⟨fun a b => ?_, h2, ?_⟩
  · rw [grantF_held _ _ _ _ h2.isM]
    split
    · rename_i e
      rw [e.1, e.2]
      exact (strF_join (hm _ _) h2.isM).1
    · exact strF_refl (hm _ _)
  · show strF (heldF (grantF l who node mode) who node) mode = true
    rw [grantF_held _ _ _ _ h2.isM, if_pos ⟨rfl, rfl⟩]
    exact (strF_join (hm _ _) h2.isM).2

theorem takeL_more : ∀ (list l out : List Lk), VTb l → takeL l list = some out → More l out ∧ ∀ x ∈ list, Cov out x := by
  intro list
  induction list with
  | nil =>
    intro l out h e
    simp only [takeL, Option.some.injEq] at e
    subst e
    exact ⟨More.refl h, by simp⟩
  | cons x r ih =>
    intro l out h e
    rw [takeL] at e
    split at e
    · rename_i l2 h2
      have hv2 := takeF_VTb h2
      have hvo := takeL_VTb _ _ _ hv2 e
      obtain ⟨m1, c1⟩ := takeF_more h2
      obtain ⟨m2, c2⟩ := ih _ _ hv2 e
      refine ⟨m1.trans h hv2 hvo m2, fun y hy => ?_⟩
      rcases List.mem_cons.1 hy with rfl | hy
      · exact Cov.more hv2 hvo c1 m2
      · exact c2 y hy
    · cases e
theorem takeL_again {out : List Lk} (h : VTb out) : ∀ list : List Lk, (∀ x ∈ list, Cov out x) → takeL out list = some out := by
  intro list
  induction list with
  | nil => intro _; rfl
  | cons x r ih =>
    intro hc
    rw [takeL, takeF_again h (hc x List.mem_cons_self)]
    exact ih fun y hy => hc y (List.mem_cons_of_mem _ hy)

theorem takeAllF_yes' {l list : List Lk} (h : VTb l) : takeAllF l list = takeL l list := by unfold takeAllF; rw [if_pos (vtb_true h)]
theorem takeAllF_some {l list out : List Lk} (h : takeAllF l list = some out) : VTb l ∧ takeL l list = some out := by
  unfold takeAllF at h
  split at h
  · rename_i hv; exact ⟨VTb_of hv, h⟩
  · cases h
theorem takeAllF_VTb {l list out : List Lk} (h : takeAllF l list = some out) : VTb out := takeL_VTb _ _ _ (takeAllF_some h).1 (takeAllF_some h).2
theorem takeAllF_len (l list : List Lk) : ((takeAllF l list).getD []).length ≤ 48 := by
  cases h : takeAllF l list with
  | none => simp
  | some out => exact (takeAllF_VTb h).1
theorem takeAllF_twice {l list out : List Lk} (h : takeAllF l list = some out) : takeAllF out list = some out := by
  have hv := takeAllF_VTb h
  obtain ⟨h1, h2⟩ := takeAllF_some h
  rw [takeAllF_yes' hv]
  exact takeL_again hv list (takeL_more _ _ _ h1 h2).2
theorem takeAllF_nil {l : List Lk} (h : VTb l) : takeAllF l [] = some l := by rw [takeAllF_yes' h]; rfl
theorem takeAllF_one (l : List Lk) (x : Lk) : takeAllF l [x] = takeF l x.who x.node x.mode := by
  by_cases h : VTb l
  · rw [takeAllF_yes' h, takeL]
    cases takeF l x.who x.node x.mode <;> rfl
  · rw [takeF_no (fun h' => h h'.1)]
    unfold takeAllF
    rw [if_neg (by rw [vtb_false h]; simp)]
theorem takeAllF_held {l list out : List Lk} (h : takeAllF l list = some out) : (∀ x ∈ list, strF (heldF out x.who x.node) x.mode = true ∧ IsM x.mode) ∧ ∀ x ∈ l, strF (heldF out x.who x.node) x.mode = true ∧ IsM x.mode := by
  obtain ⟨h1, h2⟩ := takeAllF_some h
  obtain ⟨hm, hc⟩ := takeL_more _ _ _ h1 h2
  refine ⟨fun x hx => ⟨(hc x hx).2, (hc x hx).1.isM⟩, fun x hx => ?_⟩
  have := hm x.who x.node
  rw [heldF_mem h1 hx] at this
  exact ⟨this, (h1.ask hx).isM⟩

/-- Locks of one transaction on different nodes are taken one by one. -/
theorem takeL_apart {who : Int} : ∀ (list acc : List Lk), VTb acc → (∀ x ∈ acc, x.who = who) → (∀ x ∈ list, x.who = who ∧ OkAsk x.who x.node x.mode) → (∀ x ∈ acc, ∀ y ∈ list, x.node ≠ y.node) → list.Pairwise (fun x y => x.node ≠ y.node) → takeL acc list = some (acc ++ list) := by
  intro list
  induction list with
  | nil => intro acc _ _ _ _ _; simp [takeL]
  | cons x r ih =>
    intro acc hv ha hl hd hp
    obtain ⟨hxw, hxo⟩ := hl x List.mem_cons_self
    have hno : ∀ y ∈ acc, ¬ (y.who = x.who ∧ y.node = x.node) := fun y hy hc => hd y hy x List.mem_cons_self hc.2
    have h0 : heldF acc x.who x.node = 0 := heldF_none hno
    have hb : blkF acc x.who x.node (joinF (heldF acc x.who x.node) x.mode) = [] := by
      refine blkF_nil_of fun t h1 h2 h3 => ?_
      have : heldF acc t x.node = 0 := heldF_none fun y hy hc => h3 (hc.1.symm.trans ((ha y hy).trans hxw.symm))
      rw [this, h0, joinF_zero hxo.isM]
      exact togF_zero _ hxo.isM
    have ht := takeF_yes hv hxo hb
    have hg : grantF acc x.who x.node x.mode = acc ++ [x] := grantF_app hno
    rw [takeL, ht]
    simp only
    rw [hg, ih (acc ++ [x]) (by rw [← hg]; exact takeF_VTb ht) (fun y hy => ?_) (fun y hy => hl y (List.mem_cons_of_mem _ hy)) (fun y hy z hz => ?_) (List.pairwise_cons.1 hp).2]
    · simp
    · rcases List.mem_append.1 hy with hy | hy
      · exact ha y hy
      · simp only [List.mem_cons, List.not_mem_nil, or_false] at hy; subst hy; exact hxw
    · rcases List.mem_append.1 hy with hy | hy
      · exact hd y hy z (List.mem_cons_of_mem _ hz)
      · simp only [List.mem_cons, List.not_mem_nil, or_false] at hy; subst hy
        exact (List.pairwise_cons.1 hp).1 z hz
end Go.Proofs.YtgpocjehiohimaaDoor
