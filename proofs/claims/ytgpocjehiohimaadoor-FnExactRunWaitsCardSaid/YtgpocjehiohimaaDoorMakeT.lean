/- The head of the translation, read word by word: its make, its lifts, its main package, that a call may begin in it. -/
import Derived.Test.YtgpocjehiohimaaDoorFrameT
namespace Go.Proofs.YtgpocjehiohimaaDoor
open Go.RowKit

theorem toL {s : String} {l : List Char} (h : s = String.ofList l) : s.toList = l := by rw [h]; exact String.toList_ofList
theorem wordsSigns_app : ∀ (w r : List Char), (∀ c ∈ w, c ≠ Char.ofNat 32) → wordsSigns (w ++ Char.ofNat 32 :: r) = w :: wordsSigns r
  | [], r, _ => rfl
  | c :: w, r, h => by
    have ih := wordsSigns_app w r fun x hx => h x (List.mem_cons_of_mem _ hx)
    rw [List.cons_append, wordsSigns, ih]
    exact fun e => h c (List.mem_cons_self ..) e
theorem words_take {l : List Char} (n : Nat) (h1 : (l.take n).all (fun c => c != Char.ofNat 32) = true) (h2 : l.drop n = Char.ofNat 32 :: l.drop (n + 1)) : wordsSigns l = l.take n :: wordsSigns (l.drop (n + 1)) := by
  have h3 := wordsSigns_app (l.take n) (l.drop (n + 1)) fun c hc => by simpa using List.all_eq_true.1 h1 c hc
  rw [← h2, List.take_append_drop] at h3
  exact h3
theorem words_of {s : String} {l : List Char} (h : s = String.ofList l) (h1 : (l.take 7).all (fun c => c != Char.ofNat 32) = true) (h2 : l.drop 7 = Char.ofNat 32 :: l.drop 8)
    (h3 : ((l.drop 8).take 64).all (fun c => c != Char.ofNat 32) = true) (h4 : (l.drop 8).drop 64 = Char.ofNat 32 :: (l.drop 8).drop 65)
    (h5 : (((l.drop 8).drop 65).take 3).all (fun c => c != Char.ofNat 32) = true) (h6 : ((l.drop 8).drop 65).drop 3 = Char.ofNat 32 :: ((l.drop 8).drop 65).drop 4) :
    ∃ R, wordsSigns s.toList = l.take 7 :: (l.drop 8).take 64 :: ((l.drop 8).drop 65).take 3 :: R := ⟨_, by rw [toL h, words_take 7 h1 h2, words_take 64 h3 h4, words_take 3 h5 h6]⟩
set_option maxRecDepth 100000 in
theorem headWords : ∃ R, wordsSigns Tryd.prog.initOrder.toList = "harness".toList :: "298fd186a2b2a8443555f64080714cee12ae352e68e5868c8ef6217b0f2d5fbd".toList :: "cut".toList :: R :=
  words_of (s := Tryd.prog.initOrder) (l := _) rfl (by kernel_rfl) (by kernel_rfl) (by kernel_rfl) (by kernel_rfl) (by kernel_rfl) (by kernel_rfl)


section
variable {P : Program} {R : List (List Char)}
theorem may_of (h : wordsSigns P.initOrder.toList = "harness".toList :: "298fd186a2b2a8443555f64080714cee12ae352e68e5868c8ef6217b0f2d5fbd".toList :: "cut".toList :: R) (k1 : P.laysLater = false) (k2 : P.bearsReflect = false) (k3 : P.doorFits [] = true) : P.mayEnter = true := by
  have hb : behindMainWord ("harness".toList :: "298fd186a2b2a8443555f64080714cee12ae352e68e5868c8ef6217b0f2d5fbd".toList :: "cut".toList :: R) = "cut".toList :: R := by kernel_rfl
  have hs : stripLifts liftWords ("cut".toList :: R) = ([], "cut".toList :: R) := by kernel_rfl
  have e4 : (("cut".toList :: R).head? == some "cut".toList) = true := by kernel_rfl
  unfold Program.mayEnter
  rw [h, hb]
  simp only [hs, e4, k1, k2, k3, List.contains_nil, Bool.not_false, Bool.or_true, Bool.and_true]
theorem mk_of (h : wordsSigns P.initOrder.toList = "harness".toList :: "298fd186a2b2a8443555f64080714cee12ae352e68e5868c8ef6217b0f2d5fbd".toList :: "cut".toList :: R) : P.make = some .cut := by
  unfold Program.make
  rw [h]
  kernel_rfl
theorem lifts_of (h : wordsSigns P.initOrder.toList = "harness".toList :: "298fd186a2b2a8443555f64080714cee12ae352e68e5868c8ef6217b0f2d5fbd".toList :: "cut".toList :: R) : P.liftsFinal = false := by
  unfold Program.liftsFinal Program.headLifts
  rw [h]
  kernel_rfl
theorem mains_of (h : wordsSigns P.initOrder.toList = "harness".toList :: "298fd186a2b2a8443555f64080714cee12ae352e68e5868c8ef6217b0f2d5fbd".toList :: "cut".toList :: R) : P.mainIs = some (true, "298fd186a2b2a8443555f64080714cee12ae352e68e5868c8ef6217b0f2d5fbd".toList) := by
  unfold Program.mainIs
  rw [h]
  kernel_rfl
end
theorem may' : Tryd.prog.mayEnter = true := let ⟨_, h⟩ := headWords; may_of h (by kernel_rfl) (by kernel_rfl) (by kernel_rfl)
theorem mk' : Tryd.prog.make = some .cut := let ⟨_, h⟩ := headWords; mk_of h
theorem lifts' : Tryd.prog.liftsFinal = false := let ⟨_, h⟩ := headWords; lifts_of h
theorem mains' : Tryd.prog.mainIs = some (true, "298fd186a2b2a8443555f64080714cee12ae352e68e5868c8ef6217b0f2d5fbd".toList) := let ⟨_, h⟩ := headWords; mains_of h
theorem eqMake {a b : Option Make} (h : a = b) : (a == b) = true := by subst h; simp
end Go.Proofs.YtgpocjehiohimaaDoor
