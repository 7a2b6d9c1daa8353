/- CLOSED FACTS OF THE TRANSLATED PROGRAM, asked by every row: its head, read as a list of letters, and what follows from it. -/
import Derived.Test.YtphpaaaaifpidaaRows
import Derived.JoinedOf
import Derived.KernelRfl
namespace Go.Proofs.Ytphpaaaaifpidaa

theorem toList_of {s : String} {l : List Char} (h : s = String.ofList l) : s.toList = l := by rw [h]; exact String.toList_ofList

/-- The head of the dump, letter by letter. -/
def head : List Nat :=
  [ 104, 97, 114, 110, 101, 115, 115, 32, 54, 54, 100, 57, 98, 52, 51, 101, 48, 51, 49, 98, 53, 99, 56, 102, 57, 49, 55, 56, 97, 50, 57, 55, 101, 53, 99, 51, 102, 56, 55, 56,
    54, 101, 97, 52, 100, 50, 98, 56, 48, 54, 98, 48, 55, 55, 56, 52, 102, 52, 55, 54, 100, 101, 101, 52, 53, 101, 48, 55, 100, 50, 99, 55, 32, 99, 117, 116, 32, 97, 116, 32,
    106, 111, 105, 110, 101, 114, 121, 47, 106, 111, 105, 110, 101, 114, 121, 108, 97, 119, 48, 57, 46, 78, 111, 100, 101, 84, 101, 108, 108, 115, 32, 106, 111, 105, 110, 101, 114, 121, 47, 106,
    111, 105, 110, 101, 114, 121, 108, 97, 119, 48, 50, 46, 79, 114, 100, 101, 114, 84, 101, 108, 108, 115, 32, 106, 111, 105, 110, 101, 114, 121, 47, 106, 111, 105, 110, 101, 114, 121, 108, 97,
    119, 51, 53, 46, 87, 97, 108, 107, 66, 97, 99, 107, 32, 106, 111, 105, 110, 101, 114, 121, 47, 106, 111, 105, 110, 101, 114, 121, 108, 97, 119, 51, 53, 46, 87, 97, 108, 107, 84, 101,
    108, 108, 115]
theorem head_list : Try.prog.initOrder.toList = head.map Char.ofNat := toList_of (by kernel_rfl)
/-- Its words. -/
def headWords : List (List Nat) :=
  [ [99, 117, 116],
    [97, 116],
    [106, 111, 105, 110, 101, 114, 121, 47, 106, 111, 105, 110, 101, 114, 121, 108, 97, 119, 48, 57, 46, 78, 111, 100, 101, 84, 101, 108, 108, 115],
    [106, 111, 105, 110, 101, 114, 121, 47, 106, 111, 105, 110, 101, 114, 121, 108, 97, 119, 48, 50, 46, 79, 114, 100, 101, 114, 84, 101, 108, 108, 115],
    [106, 111, 105, 110, 101, 114, 121, 47, 106, 111, 105, 110, 101, 114, 121, 108, 97, 119, 51, 53, 46, 87, 97, 108, 107, 66, 97, 99, 107],
    [106, 111, 105, 110, 101, 114, 121, 47, 106, 111, 105, 110, 101, 114, 121, 108, 97, 119, 51, 53, 46, 87, 97, 108, 107, 84, 101, 108, 108, 115]]
theorem words_list : behindMainWord (wordsSigns (head.map Char.ofNat)) = headWords.map (·.map Char.ofNat) := by kernel_rfl
theorem words_ok : behindMainWord (wordsSigns Try.prog.initOrder.toList) = headWords.map (·.map Char.ofNat) := by rw [head_list]; exact words_list
theorem strip_ok : stripLifts liftWords (headWords.map (·.map Char.ofNat)) = ([], headWords.map (·.map Char.ofNat)) := by kernel_rfl
theorem cut_word : ([99, 117, 116].map Char.ofNat) = "cut".toList := by kernel_rfl
theorem later_ok : Try.prog.laysLater = false := by kernel_rfl
theorem reflect_ok : Try.prog.bearsReflect = false := by kernel_rfl
theorem door_ok : Try.prog.doorFits [] = true := by kernel_rfl
theorem enter_of {P : Program} {c : List Char} {r : List (List Char)} (hw : behindMainWord (wordsSigns P.initOrder.toList) = c :: r) (hs : stripLifts liftWords (c :: r) = ([], c :: r)) (hc : c = "cut".toList)
    (h1 : P.laysLater = false) (h2 : P.bearsReflect = false) (h3 : P.doorFits [] = true) : P.mayEnter = true := by
  unfold Program.mayEnter
  simp only [hw, hs, h1, h2, h3]
  simp [hc]
theorem lifts_of {P : Program} {c : List Char} {r : List (List Char)} (hw : behindMainWord (wordsSigns P.initOrder.toList) = c :: r) (hs : stripLifts liftWords (c :: r) = ([], c :: r)) (hc : (some c == some "carried".toList) = false) : P.liftsFinal = false := by
  unfold Program.liftsFinal Program.headLifts
  simp only [hw, hs, List.head?_cons, hc]
  split <;> simp
theorem make_of {P : Program} {c : List Char} {r : List (List Char)} (hw : behindMainWord (wordsSigns P.initOrder.toList) = c :: r) (hc : c = "cut".toList) (h1 : ("cut".toList == "gc".toList || "cut".toList == "spec".toList) = false) : P.make = some .cut := by
  unfold Program.make
  simp only [hw, hc, h1]
  simp
theorem words_cons : headWords.map (·.map Char.ofNat) = ([99, 117, 116].map Char.ofNat) :: (headWords.tail.map (·.map Char.ofNat)) := rfl
theorem enter_ok : Try.prog.mayEnter = true := enter_of (words_ok.trans words_cons) (by rw [← words_cons]; exact strip_ok) cut_word later_ok reflect_ok door_ok
theorem lifts_ok : Try.prog.liftsFinal = false := lifts_of (words_ok.trans words_cons) (by rw [← words_cons]; exact strip_ok) (by kernel_rfl)
theorem make_ok : Try.prog.make = some .cut := make_of (words_ok.trans words_cons) cut_word (by kernel_rfl)
theorem laidOut_ok : laidOutB Try.prog = true := by kernel_rfl
theorem mapsRowed_ok : mapsRowed Try.prog = true := by kernel_rfl
theorem plainKeys_ok : Try.prog.plainKeys = true := by kernel_rfl
theorem stopsHeard_ok : Try.prog.stopsHeard = true := by kernel_rfl
theorem own_ok : ownKnob Try.prog.godebug = none := by kernel_rfl
end Go.Proofs.Ytphpaaaaifpidaa
