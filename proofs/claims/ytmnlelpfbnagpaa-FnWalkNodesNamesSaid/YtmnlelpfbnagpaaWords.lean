/- Words for the proofs of this seat: what a slice reads as, what is kept, the class of worlds behind a call; plain lemmas, no program. -/
import Derived.WalkKit
import Derived.WalkSpells
import Derived.WalkLawsBesides
import Derived.Lib.Hide
import Derived.Laws.OwnMore
import Derived.Deep.AppendLies
import Derived.Deep.Draws
import Derived.Deep.Quiet
import Derived.BigQuiet
import Derived.Maps.AppendAt
namespace Go.Proofs.Ytmnlelpfbnagpaa
open Go.RowKit

structure Nd where
  par : Int
  name : ByteArray
  val : Int
structure Lk where
  who : Int
  node : Int
  mode : Int
structure Wt where
  who : Int
  tgt : Int
structure St where
  who : Int
  free : Bool
  node : Int
  mode : Int
structure Ac where
  who : Int
  node : Int
  write : Bool
structure Dd where
  node : Int
  add : Int
structure Rc where
  who : Int
  node : Int
  val : Int
  fin : Bool

def cN (x : Nd) : List Value := [.int .i64 x.par, .string x.name, .int .i64 x.val]
def cL (x : Lk) : List Value := [.int .i64 x.who, .int .i64 x.node, .int .i64 x.mode]
def cW (x : Wt) : List Value := [.int .i64 x.who, .int .i64 x.tgt]
def cS (x : St) : List Value := [.int .i64 x.who, .bool x.free, .int .i64 x.node, .int .i64 x.mode]
def cA (x : Ac) : List Value := [.int .i64 x.who, .int .i64 x.node, .bool x.write]
def cD (x : Dd) : List Value := [.int .i64 x.node, .int .i64 x.add]
def cR (x : Rc) : List Value := [.int .i64 x.who, .int .i64 x.node, .int .i64 x.val, .bool x.fin]
def cI (x : Int) : List Value := [.int .i64 x]
def cB (x : Int) : List Value := [.int .u8 x]
def cT (x : ByteArray) : List Value := [.string x]

/-- A slice '.slice A n c' whose elements read as the list l, in a block from lo on. -/
def Rd {α : Type} (cs : α → List Value) (sz : Nat) (w : World) (lo : Nat) (A : Option Addr) (n : Nat) (l : List α) : Prop :=
  l.length = n ∧ n ≤ 1000000000000000 ∧ (0 < n → ∃ b o, A = some ⟨b, o, none⟩ ∧ lo ≤ b ∧ b < w.heap.size ∧
    ∀ k x, l[k]? = some x → ∀ j u, (cs x)[j]? = some u → w.cell? ⟨b, o + k * sz + j, none⟩ = some u)

section
variable {α : Type} {cs : α → List Value} {sz : Nat} {w w' : World} {lo : Nat} {A : Option Addr} {n : Nat} {l : List α}

theorem Rd.len (h : Rd cs sz w lo A n l) : l.length = n := h.1
theorem Rd.le (h : Rd cs sz w lo A n l) : n ≤ 1000000000000000 := h.2.1
theorem Rd.nil : Rd cs sz w lo none 0 ([] : List α) := ⟨rfl, by omega, fun h => absurd h (by omega)⟩
theorem Rd.keep (h : Rd cs sz w lo A n l) (hs : w.heap.size ≤ w'.heap.size) (hk : ∀ b, lo ≤ b → b < w.heap.size → w'.heap[b]? = w.heap[b]?) : Rd cs sz w' lo A n l :=
  ⟨h.1, h.2.1, fun hn => by
    obtain ⟨b, o, e, hlo, hb, hc⟩ := h.2.2 hn
    exact ⟨b, o, e, hlo, by omega, fun k x hx j u hu => (World.cell?_of_block (hk b hlo hb)).trans (hc k x hx j u hu)⟩⟩
theorem Rd.below (h : Rd cs sz w lo A n l) (hb : Below w.heap.size w w') : Rd cs sz w' lo A n l := h.keep hb.size fun b _ hlt => hb.block b hlt
theorem Rd.grown {R : Nat} (h : Rd cs sz w lo A n l) (hb : w.grownBy w' (some R)) (hR : R < lo) : Rd cs sz w' lo A n l :=
  h.keep hb.size fun b hlo hlt => hb.block b hlt (by intro e; injection e with e; omega)
theorem Rd.grown0 (h : Rd cs sz w lo A n l) (hb : w.grownBy w' none) : Rd cs sz w' lo A n l :=
  h.keep hb.size fun b _ hlt => hb.block b hlt (by simp)
theorem Rd.alloc (h : Rd cs sz w lo A n l) (o : Obj) : Rd cs sz (w.alloc o) lo A n l := h.below ((Below.refl _ _).alloc (Nat.le_refl _) o)
theorem Rd.drew (h : Rd cs sz w lo A n l) : Rd cs sz w.drew lo A n l := h
theorem Rd.low {lo' : Nat} (h : Rd cs sz w lo A n l) (hl : lo' ≤ lo) : Rd cs sz w lo' A n l :=
  ⟨h.1, h.2.1, fun hn => by
    obtain ⟨b, o, e, hlo, hb, hc⟩ := h.2.2 hn
    exact ⟨b, o, e, by omega, hb, hc⟩⟩
theorem Rd.get {k : Nat} (h : Rd cs sz w lo A n l) (hk : k < n) : ∃ b o x, A = some ⟨b, o, none⟩ ∧ lo ≤ b ∧ b < w.heap.size ∧ l[k]? = some x ∧
    ∀ j u, (cs x)[j]? = some u → w.cell? ⟨b, o + k * sz + j, none⟩ = some u := by
  obtain ⟨b, o, e, hlo, hb, hc⟩ := h.2.2 (by omega)
  have hkl : k < l.length := by rw [h.1]; exact hk
  exact ⟨b, o, l[k], e, hlo, hb, List.getElem?_eq_getElem hkl, hc k _ (List.getElem?_eq_getElem hkl)⟩
theorem Rd.take {k : Nat} (h : Rd cs sz w lo A n l) (hk : k ≤ n) : Rd cs sz w lo A k (l.take k) :=
  ⟨by rw [List.length_take, h.1]; omega, by have := h.2.1; omega, fun hn => by
    obtain ⟨b, o, e, hlo, hb, hc⟩ := h.2.2 (by omega)
    refine ⟨b, o, e, hlo, hb, fun i x hx j u hu => hc i x ?_ j u hu⟩
    rw [List.getElem?_take] at hx
    split at hx
    · exact hx
    · cases hx⟩
theorem Rd.drop {k c : Nat} (h : Rd cs sz w lo A n l) (hk : k ≤ n) (hc : n ≤ c) : Rd cs sz w lo (if c = k then A else A.map (·.add (k * sz))) (n - k) (l.drop k) :=
  ⟨by rw [List.length_drop, h.1], by have := h.2.1; omega, fun hn => by
    obtain ⟨b, o, rfl, hlo, hb, hcell⟩ := h.2.2 (by omega)
    rw [if_neg (by omega)]
    refine ⟨b, o + k * sz, by simp [Addr.add], hlo, hb, fun i x hx j u hu => ?_⟩
    rw [List.getElem?_drop] at hx
    have := hcell _ x hx j u hu
    rw [Nat.add_mul] at this
    rw [show o + k * sz + i * sz + j = o + (k * sz + i * sz) + j from by omega]
    exact this⟩
end

section
variable {w w' : World} {lo : Nat} {A : Option Addr} {n k : Nat}
theorem Rd.atN {l : List Nd} (h : Rd cN 3 w lo A n l) (hk : k < n) : ∃ b o x, A = some ⟨b, o, none⟩ ∧ lo ≤ b ∧ b < w.heap.size ∧ l[k]? = some x ∧
    w.cell? ⟨b, o + k * 3, none⟩ = some (.int .i64 x.par) ∧ w.cell? ⟨b, o + k * 3 + 1, none⟩ = some (.string x.name) ∧ w.cell? ⟨b, o + k * 3 + 2, none⟩ = some (.int .i64 x.val) := by
  obtain ⟨b, o, x, e, hlo, hb, hx, hc⟩ := h.get hk
  exact ⟨b, o, x, e, hlo, hb, hx, hc 0 _ rfl, hc 1 _ rfl, hc 2 _ rfl⟩
theorem Rd.atL {l : List Lk} (h : Rd cL 3 w lo A n l) (hk : k < n) : ∃ b o x, A = some ⟨b, o, none⟩ ∧ lo ≤ b ∧ b < w.heap.size ∧ l[k]? = some x ∧
    w.cell? ⟨b, o + k * 3, none⟩ = some (.int .i64 x.who) ∧ w.cell? ⟨b, o + k * 3 + 1, none⟩ = some (.int .i64 x.node) ∧ w.cell? ⟨b, o + k * 3 + 2, none⟩ = some (.int .i64 x.mode) := by
  obtain ⟨b, o, x, e, hlo, hb, hx, hc⟩ := h.get hk
  exact ⟨b, o, x, e, hlo, hb, hx, hc 0 _ rfl, hc 1 _ rfl, hc 2 _ rfl⟩
theorem Rd.atA {l : List Ac} (h : Rd cA 3 w lo A n l) (hk : k < n) : ∃ b o x, A = some ⟨b, o, none⟩ ∧ lo ≤ b ∧ b < w.heap.size ∧ l[k]? = some x ∧
    w.cell? ⟨b, o + k * 3, none⟩ = some (.int .i64 x.who) ∧ w.cell? ⟨b, o + k * 3 + 1, none⟩ = some (.int .i64 x.node) ∧ w.cell? ⟨b, o + k * 3 + 2, none⟩ = some (.bool x.write) := by
  obtain ⟨b, o, x, e, hlo, hb, hx, hc⟩ := h.get hk
  exact ⟨b, o, x, e, hlo, hb, hx, hc 0 _ rfl, hc 1 _ rfl, hc 2 _ rfl⟩
theorem Rd.atW {l : List Wt} (h : Rd cW 2 w lo A n l) (hk : k < n) : ∃ b o x, A = some ⟨b, o, none⟩ ∧ lo ≤ b ∧ b < w.heap.size ∧ l[k]? = some x ∧
    w.cell? ⟨b, o + k * 2, none⟩ = some (.int .i64 x.who) ∧ w.cell? ⟨b, o + k * 2 + 1, none⟩ = some (.int .i64 x.tgt) := by
  obtain ⟨b, o, x, e, hlo, hb, hx, hc⟩ := h.get hk
  exact ⟨b, o, x, e, hlo, hb, hx, hc 0 _ rfl, hc 1 _ rfl⟩
theorem Rd.atD {l : List Dd} (h : Rd cD 2 w lo A n l) (hk : k < n) : ∃ b o x, A = some ⟨b, o, none⟩ ∧ lo ≤ b ∧ b < w.heap.size ∧ l[k]? = some x ∧
    w.cell? ⟨b, o + k * 2, none⟩ = some (.int .i64 x.node) ∧ w.cell? ⟨b, o + k * 2 + 1, none⟩ = some (.int .i64 x.add) := by
  obtain ⟨b, o, x, e, hlo, hb, hx, hc⟩ := h.get hk
  exact ⟨b, o, x, e, hlo, hb, hx, hc 0 _ rfl, hc 1 _ rfl⟩
theorem Rd.atS {l : List St} (h : Rd cS 4 w lo A n l) (hk : k < n) : ∃ b o x, A = some ⟨b, o, none⟩ ∧ lo ≤ b ∧ b < w.heap.size ∧ l[k]? = some x ∧
    w.cell? ⟨b, o + k * 4, none⟩ = some (.int .i64 x.who) ∧ w.cell? ⟨b, o + k * 4 + 1, none⟩ = some (.bool x.free) ∧ w.cell? ⟨b, o + k * 4 + 2, none⟩ = some (.int .i64 x.node) ∧ w.cell? ⟨b, o + k * 4 + 3, none⟩ = some (.int .i64 x.mode) := by
  obtain ⟨b, o, x, e, hlo, hb, hx, hc⟩ := h.get hk
  exact ⟨b, o, x, e, hlo, hb, hx, hc 0 _ rfl, hc 1 _ rfl, hc 2 _ rfl, hc 3 _ rfl⟩
theorem Rd.atR {l : List Rc} (h : Rd cR 4 w lo A n l) (hk : k < n) : ∃ b o x, A = some ⟨b, o, none⟩ ∧ lo ≤ b ∧ b < w.heap.size ∧ l[k]? = some x ∧
    w.cell? ⟨b, o + k * 4, none⟩ = some (.int .i64 x.who) ∧ w.cell? ⟨b, o + k * 4 + 1, none⟩ = some (.int .i64 x.node) ∧ w.cell? ⟨b, o + k * 4 + 2, none⟩ = some (.int .i64 x.val) ∧ w.cell? ⟨b, o + k * 4 + 3, none⟩ = some (.bool x.fin) := by
  obtain ⟨b, o, x, e, hlo, hb, hx, hc⟩ := h.get hk
  exact ⟨b, o, x, e, hlo, hb, hx, hc 0 _ rfl, hc 1 _ rfl, hc 2 _ rfl, hc 3 _ rfl⟩
theorem Rd.atI {l : List Int} (h : Rd cI 1 w lo A n l) (hk : k < n) : ∃ b o x, A = some ⟨b, o, none⟩ ∧ lo ≤ b ∧ b < w.heap.size ∧ l[k]? = some x ∧
    w.cell? ⟨b, o + k, none⟩ = some (.int .i64 x) := by
  obtain ⟨b, o, x, e, hlo, hb, hx, hc⟩ := h.get hk
  exact ⟨b, o, x, e, hlo, hb, hx, by simpa using hc 0 _ rfl⟩
theorem Rd.atB {l : List Int} (h : Rd cB 1 w lo A n l) (hk : k < n) : ∃ b o x, A = some ⟨b, o, none⟩ ∧ lo ≤ b ∧ b < w.heap.size ∧ l[k]? = some x ∧
    w.cell? ⟨b, o + k, none⟩ = some (.int .u8 x) := by
  obtain ⟨b, o, x, e, hlo, hb, hx, hc⟩ := h.get hk
  exact ⟨b, o, x, e, hlo, hb, hx, by simpa using hc 0 _ rfl⟩
theorem Rd.atT {l : List ByteArray} (h : Rd cT 1 w lo A n l) (hk : k < n) : ∃ b o x, A = some ⟨b, o, none⟩ ∧ lo ≤ b ∧ b < w.heap.size ∧ l[k]? = some x ∧
    w.cell? ⟨b, o + k, none⟩ = some (.string x) := by
  obtain ⟨b, o, x, e, hlo, hb, hx, hc⟩ := h.get hk
  exact ⟨b, o, x, e, hlo, hb, hx, by simpa using hc 0 _ rfl⟩
end

theorem drop_cons {α : Type} {l : List α} {k : Nat} {x : α} (h : l[k]? = some x) : l.drop k = x :: l.drop (k + 1) := by
  obtain ⟨hk, e⟩ := List.getElem?_eq_some_iff.1 h
  rw [List.drop_eq_getElem_cons hk, e]
theorem take_snoc {α : Type} {l : List α} {k : Nat} {x : α} (h : l[k]? = some x) : l.take (k + 1) = l.take k ++ [x] := by
  obtain ⟨hk, e⟩ := List.getElem?_eq_some_iff.1 h
  rw [List.take_succ_eq_append_getElem hk, e]

theorem ret_int {k : IntKind} {a b : Int} (h : a = b) : Ending.returned (.int k a) = .returned (.int k b) := by rw [h]
theorem ret_bool {a b : Bool} (h : a = b) : Ending.returned (.bool a) = .returned (.bool b) := by rw [h]

theorem bcell {W w1 : World} (hb : Below W.heap.size W w1) : (∀ b o, b < W.heap.size → w1.cell? ⟨b, o, none⟩ = W.cell? ⟨b, o, none⟩) ∧ (∀ b o, b < W.heap.size → w1.frozen? ⟨b, o, none⟩ = W.frozen? ⟨b, o, none⟩) :=
  ⟨fun b o h => hb.cell (p := ⟨b, o, none⟩) h, fun b o h => hb.frozen (p := ⟨b, o, none⟩) h⟩

theorem blk_cell {w : World} {g : Nat} {t : TypeId} {cs : Array Value} {i : Nat} {v : Value} (h : w.heap[g]? = some (.cells cs t (0, 0))) (hi : cs[i]? = some v) : w.cell? ⟨g, i, none⟩ = some v := by
  rw [cell_of_row w g i cs t (0, 0) h]; exact hi
theorem blk_free {w : World} {g : Nat} {t : TypeId} {cs : Array Value} (h : w.heap[g]? = some (.cells cs t (0, 0))) (i : Nat) : w.frozen? ⟨g, i, none⟩ = false := by
  simp [World.frozen?, h]
theorem blk_lt {w : World} {g : Nat} {o : Obj} (h : w.heap[g]? = some o) : g < w.heap.size := (Array.getElem?_eq_some_iff.1 h).1
theorem blk_below {w w' : World} {g : Nat} {o : Obj} (h : w.heap[g]? = some o) (hb : Below w.heap.size w w') : w'.heap[g]? = some o := (hb.block g (blk_lt h)).trans h
theorem blk_alloc {w : World} {g : Nat} {o : Obj} (h : w.heap[g]? = some o) (o' : Obj) : (w.alloc o').heap[g]? = some o := (Below.heap_alloc w o' g (blk_lt h)).trans h
theorem blk_set {w : World} {g : Nat} {t : TypeId} {cs : Array Value} (h : w.heap[g]? = some (.cells cs t (0, 0))) (i : Nat) (u : Value) : (w.setCell ⟨g, i, none⟩ u).heap[g]? = some (.cells (cs.setIfInBounds i u) t (0, 0)) := by
  simp [World.setCell, Array.getElem?_modify, h]

theorem run_make_rowN {P : Program} (t e : TypeId) (i : TypeInfo) (z : Value) (ht : P.underlying t = some (.slice e)) (hi : P.info? e = some i) (hz : i.zero = some z)
    (kl kc : IntKind) (n c : Nat) (hnc : n ≤ c) (hbytes : i.bytes * c ≤ 281474976710656) (h63 : c ≤ 9223372036854775807) (w : World) :
    (Instr.makeSlice t (.int kl (n : Int)) (.int kc (c : Int))).run P w = .ok (.slice (some ⟨w.heap.size, 0, none⟩) n c) (w.alloc (.cells (madeCells z.cells (c * i.size)) e)) := by
  have hb : (i.bytes : Int) * (c : Int) ≤ 281474976710656 := by
    have h : ((i.bytes * c : Nat) : Int) ≤ 281474976710656 := by omega
    rwa [Int.natCast_mul] at h
  have hr := run_make (P := P) w t e i z ht hi hz kl kc n c (by omega) (by omega) hb (by omega)
  simp only [Int.toNat_natCast] at hr
  exact hr

/-- n zeros. -/
def zer (n : Nat) : Array Value := madeCells #[Value.int .i64 0] n
theorem zer_size (n : Nat) : (zer n).size = n := size_madeCells _ _
theorem zer_get {n i : Nat} (h : i < n) : (zer n)[i]? = some (.int .i64 0) := by
  have h1 := toList_madeCells_one (Value.int .i64 0) n
  have h2 : (zer n).toList[i]? = some (.int .i64 0) := by
    unfold zer
    rw [h1, List.getElem?_replicate, if_pos h]
  simpa using h2

theorem ofInt_i64 (a : Nat) (ha : a < 9223372036854775808) : (BitVec.ofInt 64 (a : Int)).toNat = a := by
  rw [BitVec.ofInt_natCast, BitVec.toNat_ofNat]; exact Nat.mod_eq_of_lt (by omega)
theorem i64_xor_nat (a b : Nat) (ha : a < 9223372036854775808) (hb : b < 9223372036854775808) : bits .xor .i64 (a : Int) (b : Int) = ((a ^^^ b : Nat) : Int) := by
  have hx : a ^^^ b < 2 ^ 63 := Nat.xor_lt_two_pow (by omega) (by omega)
  show IntKind.i64.wrap ((BitVec.ofInt 64 (a : Int) ^^^ BitVec.ofInt 64 (b : Int)).toNat : Int) = _
  rw [BitVec.toNat_xor, ofInt_i64 a ha, ofInt_i64 b hb, IntKind.wrap_i64]
  omega
theorem i64_and_nat (a b : Nat) (ha : a < 9223372036854775808) (hb : b < 9223372036854775808) : bits .and .i64 (a : Int) (b : Int) = ((a &&& b : Nat) : Int) := by
  have hx : a &&& b < 2 ^ 63 := Nat.and_lt_two_pow _ (by omega)
  show IntKind.i64.wrap ((BitVec.ofInt 64 (a : Int) &&& BitVec.ofInt 64 (b : Int)).toNat : Int) = _
  rw [BitVec.toNat_and, ofInt_i64 a ha, ofInt_i64 b hb, IntKind.wrap_i64]
  omega
theorem i64_or_nat (a b : Nat) (ha : a < 9223372036854775808) (hb : b < 9223372036854775808) : bits .or .i64 (a : Int) (b : Int) = ((a ||| b : Nat) : Int) := by
  have hx : a ||| b < 2 ^ 63 := Nat.or_lt_two_pow (by omega) (by omega)
  show IntKind.i64.wrap ((BitVec.ofInt 64 (a : Int) ||| BitVec.ofInt 64 (b : Int)).toNat : Int) = _
  rw [BitVec.toNat_or, ofInt_i64 a ha, ofInt_i64 b hb, IntKind.wrap_i64]
  omega

/-- A world that holds what w holds. -/
structure After (w : World) where
  now : World
  below : Below w.heap.size w now
instance (w : World) : Nonempty (After w) := ⟨⟨w, Below.refl _ _⟩⟩

/-- A region that draws its order, whose operations read and whose callees make memory but change none: walked once, in the class of all worlds that hold what w holds. -/
theorem wp_region_after {P : Program} {id : Nat} {Q : Exit → Act → World → Prop} {a : Act} {w : World} {l : List Oper} (hm : P.follows .mixedOrders = true) (hB : Region.lexB .any l.toArray = true)
    (h : wpQuiet P l.toArray (fun w' => ∃ x : After w, w' = x.now) (fun a' => ∀ w', Below w.heap.size w w' → Q .normal a' w') l a) :
    (Code.region id l.toArray true).wp P Q a w := by
  refine wp_region_quiet (C := fun w' => ∃ x : After w, w' = x.now) hm hB ⟨⟨_, (Below.refl w.heap.size w).drew⟩, rfl⟩ ?_
  have e : (fun a' => ∀ w', (∃ x : After w, w' = x.now) → Q .normal a' w') = (fun a' => ∀ w', Below w.heap.size w w' → Q .normal a' w') := by
    funext a'
    apply propext
    exact ⟨fun h w' hb => h w' ⟨⟨w', hb⟩, rfl⟩, fun h w' ⟨x, hx⟩ => by subst hx; exact h _ x.below⟩
  rw [e]
  simpa using h

theorem aft {W : World} {p : Addr} {v : Value} (h : W.cell? p = some v) : ∀ x : After W, x.now.cell? p = some v :=
  fun x => (x.below.cell (World.block_lt_of_cell? W p h)).trans h

/-- A callee's contract, met in a world of the class. -/
theorem aft_call {P : Program} {f : FuncId} {args : Array Value} {W : World} {v : Value} {x : After W}
    (h : Calls P f args x.now fun e w' => e = .returned v ∧ Below x.now.heap.size x.now w') : Calls P f args x.now fun e w'' => e = .returned v ∧ ∃ y : After W, w'' = y.now :=
  h.mono fun _ _ ⟨he, hb⟩ => ⟨he, ⟨⟨_, x.below.trans (hb.mono x.below.size)⟩, rfl⟩⟩
theorem aft_same {P : Program} {f : FuncId} {args : Array Value} {W : World} {v : Value} {x : After W}
    (h : Calls P f args x.now fun e w' => e = .returned v ∧ x.now = w') : Calls P f args x.now fun e w'' => e = .returned v ∧ ∃ y : After W, w'' = y.now :=
  h.mono fun _ _ ⟨he, hb⟩ => ⟨he, ⟨x, hb.symm⟩⟩

end Go.Proofs.Ytmnlelpfbnagpaa
