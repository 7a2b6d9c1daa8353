/- CLOSED FACTS OF THE TRANSLATED PROGRAM, asked by every row: its head, read as a list of letters, and what follows from it. -/
import Derived.Test.YtgpegcjgmoiglaaDoorRows
import Derived.JoinedOf
import Derived.KernelRfl
namespace Go.Proofs.YtgpegcjgmoiglaaDoor

theorem toList_of {s : String} {l : List Char} (h : s = String.ofList l) : s.toList = l := by rw [h]; exact String.toList_ofList

/-- The head of the dump, letter by letter. -/
def head : List Nat :=
  [ 104, 97, 114, 110, 101, 115, 115, 32, 55, 56, 57, 100, 102, 101, 54, 102, 56, 101, 56, 49, 97, 101, 49, 56, 53, 102, 50, 53, 52, 99, 57, 99, 102, 100, 52, 97, 50, 100, 100, 55,
    54, 57, 53, 48, 98, 51, 53, 51, 98, 98, 53, 57, 50, 102, 101, 97, 54, 98, 57, 55, 52, 97, 56, 56, 48, 100, 57, 56, 54, 97, 55, 54, 32, 99, 117, 116, 32, 97, 116, 32,
    106, 111, 105, 110, 101, 114, 121, 47, 106, 111, 105, 110, 101, 114, 121, 108, 97, 119, 49, 49, 46, 83, 104, 97, 112, 101, 76, 105, 115, 116, 115, 32, 106, 111, 105, 110, 101, 114, 121, 47,
    106, 111, 105, 110, 101, 114, 121, 108, 97, 119, 49, 49, 46, 83, 104, 97, 112, 101, 82, 101, 97, 100, 115, 32, 106, 111, 105, 110, 101, 114, 121, 47, 106, 111, 105, 110, 101, 114, 121, 108,
    97, 119, 49, 49, 46, 83, 104, 97, 112, 101, 77, 97, 107, 101, 115, 32, 106, 111, 105, 110, 101, 114, 121, 47, 106, 111, 105, 110, 101, 114, 121, 108, 97, 119, 49, 49, 46, 83, 104, 97,
    112, 101, 66, 97, 99, 107, 32, 106, 111, 105, 110, 101, 114, 121, 47, 106, 111, 105, 110, 101, 114, 121, 108, 97, 119, 49, 49, 46, 83, 104, 97, 112, 101, 68, 101, 101, 112]
theorem head_list : Tryd.prog.initOrder.toList = head.map Char.ofNat := toList_of (by kernel_rfl)
/-- Its words. -/
def headWords : List (List Nat) :=
  [ [99, 117, 116],
    [97, 116],
    [106, 111, 105, 110, 101, 114, 121, 47, 106, 111, 105, 110, 101, 114, 121, 108, 97, 119, 49, 49, 46, 83, 104, 97, 112, 101, 76, 105, 115, 116, 115],
    [106, 111, 105, 110, 101, 114, 121, 47, 106, 111, 105, 110, 101, 114, 121, 108, 97, 119, 49, 49, 46, 83, 104, 97, 112, 101, 82, 101, 97, 100, 115],
    [106, 111, 105, 110, 101, 114, 121, 47, 106, 111, 105, 110, 101, 114, 121, 108, 97, 119, 49, 49, 46, 83, 104, 97, 112, 101, 77, 97, 107, 101, 115],
    [106, 111, 105, 110, 101, 114, 121, 47, 106, 111, 105, 110, 101, 114, 121, 108, 97, 119, 49, 49, 46, 83, 104, 97, 112, 101, 66, 97, 99, 107],
    [106, 111, 105, 110, 101, 114, 121, 47, 106, 111, 105, 110, 101, 114, 121, 108, 97, 119, 49, 49, 46, 83, 104, 97, 112, 101, 68, 101, 101, 112]]
theorem words_list : behindMainWord (wordsSigns (head.map Char.ofNat)) = headWords.map (·.map Char.ofNat) := by kernel_rfl
theorem words_ok : behindMainWord (wordsSigns Tryd.prog.initOrder.toList) = headWords.map (·.map Char.ofNat) := by rw [head_list]; exact words_list
theorem strip_ok : stripLifts liftWords (headWords.map (·.map Char.ofNat)) = ([], headWords.map (·.map Char.ofNat)) := by kernel_rfl
theorem cut_word : ([99, 117, 116].map Char.ofNat) = "cut".toList := by kernel_rfl
theorem later_ok : Tryd.prog.laysLater = false := by kernel_rfl
theorem reflect_ok : Tryd.prog.bearsReflect = false := by kernel_rfl
theorem door_ok : Tryd.prog.doorFits [] = true := by kernel_rfl
theorem enter_of {P : Program} {c : List Char} {r : List (List Char)} (hw : behindMainWord (wordsSigns P.initOrder.toList) = c :: r) (hs : stripLifts liftWords (c :: r) = ([], c :: r)) (hc : c = "cut".toList)
    (h1 : P.laysLater = false) (h2 : P.bearsReflect = false) (h3 : P.doorFits [] = true) : P.mayEnter = true := by
  unfold Program.mayEnter
  simp only [hw, hs, h1, h2, h3]
  simp [hc]
theorem lifts_of {P : Program} {c : List Char} {r : List (List Char)} (hw : behindMainWord (wordsSigns P.initOrder.toList) = c :: r) (hs : stripLifts liftWords (c :: r) = ([], c :: r)) (hc : (some c == some "carried".toList) = false) : P.liftsFinal = false := by
  unfold Program.liftsFinal Program.headLifts
  simp only [hw, hs, List.head?_cons, hc]
  split <;> simp
theorem make_of {P : Program} {c : List Char} {r : List (List Char)} (hw : behindMainWord (wordsSigns P.initOrder.toList) = c :: r) (hc : c = "cut".toList) (h1 : ("cut".toList == "gc".toList || "cut".toList == "spec".toList) = false) : P.make = some .cut := by
  unfold Program.make
  simp only [hw, hc, h1]
  simp
theorem words_cons : headWords.map (·.map Char.ofNat) = ([99, 117, 116].map Char.ofNat) :: (headWords.tail.map (·.map Char.ofNat)) := rfl
theorem enter_ok : Tryd.prog.mayEnter = true := enter_of (words_ok.trans words_cons) (by rw [← words_cons]; exact strip_ok) cut_word later_ok reflect_ok door_ok
theorem lifts_ok : Tryd.prog.liftsFinal = false := lifts_of (words_ok.trans words_cons) (by rw [← words_cons]; exact strip_ok) (by kernel_rfl)
theorem make_ok : Tryd.prog.make = some .cut := make_of (words_ok.trans words_cons) cut_word (by kernel_rfl)
theorem laidOut_ok : laidOutB Tryd.prog = true := by kernel_rfl
theorem mapsRowed_ok : mapsRowed Tryd.prog = true := by kernel_rfl
theorem plainKeys_ok : Tryd.prog.plainKeys = true := by kernel_rfl
theorem stopsHeard_ok : Tryd.prog.stopsHeard = true := by kernel_rfl
theorem own_ok : ownKnob Tryd.prog.godebug = none := by kernel_rfl
end Go.Proofs.YtgpegcjgmoiglaaDoor
