/-
  No cell of these rows narrows 'for every input' (looked for: loops, veiled, ifaces, maps, wideKeys, modest, calm, conditions, laid).
  DERIVED. THE GIVEN ROWS OF THIS SEAT. 13 by the template 'for every input the law returns true; each argument reads behind the call as it read before'; 0 by the template 'total and deterministic' (their statements: YtcljbaoadmflgaaTotals.lean).
  GIVEN WITH THE SEED: the statements are not yours to turn. If you find one false, say at which input.
  Laid BY PROGRAM, IN A SANDBOX (cutbox-rows.mjs): the forced cells as the released guide's own fill.sh prints them over the translation 8921a39449b10e4f… (all of the seat's roots in one cut). By AI agents, Wed Nov 11 2026. No macro, syntax, notation, axiom, sorry.
-/
import Derived.Test.YtcljbaoadmflgaaChecked
import GoSem.Claim
import GoSem.ClaimJoined
import GoSem.ClaimMapViews
import Derived.JoinedTies
import Derived.KernelRfl
namespace Go.Proofs.Ytcljbaoadmflgaa
/- THE CELL 'sum', in the pinned program and in every row, IS THE sha256 OF THE DUMP (.gsa) THAT YtcljbaoadmflgaaProg.lean LOADS. Nothing in Lean hashes anything: it is a label: what it is worth is what the hold of that sum in a sandbox is worth. -/
noncomputable def Try.pinned : Pinned := { name := "ytcljbaoadmflgaa", sum := "8921a39449b10e4fb6e7d7d112b92b6fb1fd64eb3dd2f919a75b6cdd5d6cdd58", checked := Try.checked }
namespace Rows
def none {H : Type} : Left H := { results := [], args := [] }

/-- 'payofflaw04.OctetWrites': WHATEVER THE INPUT: true; the input reads as it did. -/
def octetWritesSpec : ChangeSpec := { name := "octetWrites", fn := fun _ => fun
  | [d1, d2, d3, d4, d5] => { results := [.lit (.bool true)], args := [d1, d2, d3, d4, d5] }
  | _ => none }
def octetWritesRow : OpenClaim := { program := "ytcljbaoadmflgaa", sum := "8921a39449b10e4fb6e7d7d112b92b6fb1fd64eb3dd2f919a75b6cdd5d6cdd58", func := "payoff/payofflaw04.OctetWrites", spec := "octetWrites", apart := false }
def OctetWritesSaid : Prop := octetWritesRow.holds Try.pinned (OpenSpec.ofChange octetWritesSpec)

/-- ITS FALSE NEIGHBOUR: 'it returns false'. Refute it at one input. -/
def octetWritesWrong : ChangeSpec := { name := "octetWrites", fn := fun _ => fun
  | [d1, d2, d3, d4, d5] => { results := [.lit (.bool false)], args := [d1, d2, d3, d4, d5] }
  | _ => none }
def OctetWritesWrongFalsely : Prop := octetWritesRow.holds Try.pinned (OpenSpec.ofChange octetWritesWrong)

/-- 'payofflaw04.OctetOnly': WHATEVER THE INPUT: true; the input reads as it did. -/
def octetOnlySpec : ChangeSpec := { name := "octetOnly", fn := fun _ => fun
  | [d1, d2, d3] => { results := [.lit (.bool true)], args := [d1, d2, d3] }
  | _ => none }
def octetOnlyRow : OpenClaim := { program := "ytcljbaoadmflgaa", sum := "8921a39449b10e4fb6e7d7d112b92b6fb1fd64eb3dd2f919a75b6cdd5d6cdd58", func := "payoff/payofflaw04.OctetOnly", spec := "octetOnly", apart := false }
def OctetOnlySaid : Prop := octetOnlyRow.holds Try.pinned (OpenSpec.ofChange octetOnlySpec)

/-- ITS FALSE NEIGHBOUR: 'it returns false'. Refute it at one input. -/
def octetOnlyWrong : ChangeSpec := { name := "octetOnly", fn := fun _ => fun
  | [d1, d2, d3] => { results := [.lit (.bool false)], args := [d1, d2, d3] }
  | _ => none }
def OctetOnlyWrongFalsely : Prop := octetOnlyRow.holds Try.pinned (OpenSpec.ofChange octetOnlyWrong)

/-- 'payofflaw04.OctetSigned': WHATEVER THE INPUT: true; the input reads as it did. -/
def octetSignedSpec : ChangeSpec := { name := "octetSigned", fn := fun _ => fun
  | [d] => { results := [.lit (.bool true)], args := [d] }
  | _ => none }
def octetSignedRow : OpenClaim := { program := "ytcljbaoadmflgaa", sum := "8921a39449b10e4fb6e7d7d112b92b6fb1fd64eb3dd2f919a75b6cdd5d6cdd58", func := "payoff/payofflaw04.OctetSigned", spec := "octetSigned", apart := false }
def OctetSignedSaid : Prop := octetSignedRow.holds Try.pinned (OpenSpec.ofChange octetSignedSpec)

/-- ITS FALSE NEIGHBOUR: 'it returns false'. Refute it at one input. -/
def octetSignedWrong : ChangeSpec := { name := "octetSigned", fn := fun _ => fun
  | [d] => { results := [.lit (.bool false)], args := [d] }
  | _ => none }
def OctetSignedWrongFalsely : Prop := octetSignedRow.holds Try.pinned (OpenSpec.ofChange octetSignedWrong)

/-- 'payofflaw04.OctetReads': WHATEVER THE INPUT: true; the input reads as it did. -/
def octetReadsSpec : ChangeSpec := { name := "octetReads", fn := fun _ => fun
  | [d1, d2] => { results := [.lit (.bool true)], args := [d1, d2] }
  | _ => none }
def octetReadsRow : OpenClaim := { program := "ytcljbaoadmflgaa", sum := "8921a39449b10e4fb6e7d7d112b92b6fb1fd64eb3dd2f919a75b6cdd5d6cdd58", func := "payoff/payofflaw04.OctetReads", spec := "octetReads", apart := false }
def OctetReadsSaid : Prop := octetReadsRow.holds Try.pinned (OpenSpec.ofChange octetReadsSpec)

/-- ITS FALSE NEIGHBOUR: 'it returns false'. Refute it at one input. -/
def octetReadsWrong : ChangeSpec := { name := "octetReads", fn := fun _ => fun
  | [d1, d2] => { results := [.lit (.bool false)], args := [d1, d2] }
  | _ => none }
def OctetReadsWrongFalsely : Prop := octetReadsRow.holds Try.pinned (OpenSpec.ofChange octetReadsWrong)

/-- 'payofflaw04.OctetPair': WHATEVER THE INPUT: true; the input reads as it did. -/
def octetPairSpec : ChangeSpec := { name := "octetPair", fn := fun _ => fun
  | [d1, d2, d3, d4] => { results := [.lit (.bool true)], args := [d1, d2, d3, d4] }
  | _ => none }
def octetPairRow : OpenClaim := { program := "ytcljbaoadmflgaa", sum := "8921a39449b10e4fb6e7d7d112b92b6fb1fd64eb3dd2f919a75b6cdd5d6cdd58", func := "payoff/payofflaw04.OctetPair", spec := "octetPair", apart := false }
def OctetPairSaid : Prop := octetPairRow.holds Try.pinned (OpenSpec.ofChange octetPairSpec)

/-- ITS FALSE NEIGHBOUR: 'it returns false'. Refute it at one input. -/
def octetPairWrong : ChangeSpec := { name := "octetPair", fn := fun _ => fun
  | [d1, d2, d3, d4] => { results := [.lit (.bool false)], args := [d1, d2, d3, d4] }
  | _ => none }
def OctetPairWrongFalsely : Prop := octetPairRow.holds Try.pinned (OpenSpec.ofChange octetPairWrong)

/-- 'payofflaw04.OctetStay': WHATEVER THE INPUT: true; the input reads as it did. -/
def octetStaySpec : ChangeSpec := { name := "octetStay", fn := fun _ => fun
  | [d1, d2, d3] => { results := [.lit (.bool true)], args := [d1, d2, d3] }
  | _ => none }
def octetStayRow : OpenClaim := { program := "ytcljbaoadmflgaa", sum := "8921a39449b10e4fb6e7d7d112b92b6fb1fd64eb3dd2f919a75b6cdd5d6cdd58", func := "payoff/payofflaw04.OctetStay", spec := "octetStay", apart := false }
def OctetStaySaid : Prop := octetStayRow.holds Try.pinned (OpenSpec.ofChange octetStaySpec)

/-- ITS FALSE NEIGHBOUR: 'it returns false'. Refute it at one input. -/
def octetStayWrong : ChangeSpec := { name := "octetStay", fn := fun _ => fun
  | [d1, d2, d3] => { results := [.lit (.bool false)], args := [d1, d2, d3] }
  | _ => none }
def OctetStayWrongFalsely : Prop := octetStayRow.holds Try.pinned (OpenSpec.ofChange octetStayWrong)

/-- 'payofflaw04.OctetBack': WHATEVER THE INPUT: true; the input reads as it did. -/
def octetBackSpec : ChangeSpec := { name := "octetBack", fn := fun _ => fun
  | [d1, d2] => { results := [.lit (.bool true)], args := [d1, d2] }
  | _ => none }
def octetBackRow : OpenClaim := { program := "ytcljbaoadmflgaa", sum := "8921a39449b10e4fb6e7d7d112b92b6fb1fd64eb3dd2f919a75b6cdd5d6cdd58", func := "payoff/payofflaw04.OctetBack", spec := "octetBack", apart := false }
def OctetBackSaid : Prop := octetBackRow.holds Try.pinned (OpenSpec.ofChange octetBackSpec)

/-- ITS FALSE NEIGHBOUR: 'it returns false'. Refute it at one input. -/
def octetBackWrong : ChangeSpec := { name := "octetBack", fn := fun _ => fun
  | [d1, d2] => { results := [.lit (.bool false)], args := [d1, d2] }
  | _ => none }
def OctetBackWrongFalsely : Prop := octetBackRow.holds Try.pinned (OpenSpec.ofChange octetBackWrong)

/-- 'payofflaw04.OctetSums': WHATEVER THE INPUT: true; the input reads as it did. -/
def octetSumsSpec : ChangeSpec := { name := "octetSums", fn := fun _ => fun
  | [d] => { results := [.lit (.bool true)], args := [d] }
  | _ => none }
def octetSumsRow : OpenClaim := { program := "ytcljbaoadmflgaa", sum := "8921a39449b10e4fb6e7d7d112b92b6fb1fd64eb3dd2f919a75b6cdd5d6cdd58", func := "payoff/payofflaw04.OctetSums", spec := "octetSums", inPlace := ["sync/atomic.LoadUint32", "(*internal/sync.Mutex).Lock", "internal/race.Disable", "sync/atomic.CompareAndSwapInt32", "internal/race.Enable", "internal/race.Acquire", "(*internal/sync.Mutex).lockSlow", "internal/sync.runtime_canSpin", "internal/sync.runtime_doSpin", "internal/sync.throw", "internal/sync.runtime_nanotime", "internal/sync.runtime_SemacquireMutex", "sync/atomic.AddInt32", "(*internal/sync.Mutex).Unlock", "internal/race.ReleaseMerge", "(*internal/sync.Mutex).unlockSlow", "internal/sync.fatal", "internal/sync.runtime_Semrelease", "sync/atomic.StoreUint32"], unfollowed := true, recurses := true, apart := false }
def OctetSumsSaid : Prop := octetSumsRow.holds Try.pinned (OpenSpec.ofChange octetSumsSpec)

/-- ITS FALSE NEIGHBOUR: 'it returns false'. Refute it at one input. -/
def octetSumsWrong : ChangeSpec := { name := "octetSums", fn := fun _ => fun
  | [d] => { results := [.lit (.bool false)], args := [d] }
  | _ => none }
def OctetSumsWrongFalsely : Prop := octetSumsRow.holds Try.pinned (OpenSpec.ofChange octetSumsWrong)

/-- 'payofflaw04.OctetSeals': WHATEVER THE INPUT: true; the input reads as it did. -/
def octetSealsSpec : ChangeSpec := { name := "octetSeals", fn := fun _ => fun
  | [d1, d2] => { results := [.lit (.bool true)], args := [d1, d2] }
  | _ => none }
def octetSealsRow : OpenClaim := { program := "ytcljbaoadmflgaa", sum := "8921a39449b10e4fb6e7d7d112b92b6fb1fd64eb3dd2f919a75b6cdd5d6cdd58", func := "payoff/payofflaw04.OctetSeals", spec := "octetSeals", inPlace := ["sync/atomic.LoadUint32", "(*internal/sync.Mutex).Lock", "internal/race.Disable", "sync/atomic.CompareAndSwapInt32", "internal/race.Enable", "internal/race.Acquire", "(*internal/sync.Mutex).lockSlow", "internal/sync.runtime_canSpin", "internal/sync.runtime_doSpin", "internal/sync.throw", "internal/sync.runtime_nanotime", "internal/sync.runtime_SemacquireMutex", "sync/atomic.AddInt32", "(*internal/sync.Mutex).Unlock", "internal/race.ReleaseMerge", "(*internal/sync.Mutex).unlockSlow", "internal/sync.fatal", "internal/sync.runtime_Semrelease", "sync/atomic.StoreUint32"], unfollowed := true, recurses := true, apart := false }
def OctetSealsSaid : Prop := octetSealsRow.holds Try.pinned (OpenSpec.ofChange octetSealsSpec)

/-- ITS FALSE NEIGHBOUR: 'it returns false'. Refute it at one input. -/
def octetSealsWrong : ChangeSpec := { name := "octetSeals", fn := fun _ => fun
  | [d1, d2] => { results := [.lit (.bool false)], args := [d1, d2] }
  | _ => none }
def OctetSealsWrongFalsely : Prop := octetSealsRow.holds Try.pinned (OpenSpec.ofChange octetSealsWrong)

/-- 'payofflaw04.OctetUnseals': WHATEVER THE INPUT: true; the input reads as it did. -/
def octetUnsealsSpec : ChangeSpec := { name := "octetUnseals", fn := fun _ => fun
  | [d1, d2] => { results := [.lit (.bool true)], args := [d1, d2] }
  | _ => none }
def octetUnsealsRow : OpenClaim := { program := "ytcljbaoadmflgaa", sum := "8921a39449b10e4fb6e7d7d112b92b6fb1fd64eb3dd2f919a75b6cdd5d6cdd58", func := "payoff/payofflaw04.OctetUnseals", spec := "octetUnseals", inPlace := ["sync/atomic.LoadUint32", "(*internal/sync.Mutex).Lock", "internal/race.Disable", "sync/atomic.CompareAndSwapInt32", "internal/race.Enable", "internal/race.Acquire", "(*internal/sync.Mutex).lockSlow", "internal/sync.runtime_canSpin", "internal/sync.runtime_doSpin", "internal/sync.throw", "internal/sync.runtime_nanotime", "internal/sync.runtime_SemacquireMutex", "sync/atomic.AddInt32", "(*internal/sync.Mutex).Unlock", "internal/race.ReleaseMerge", "(*internal/sync.Mutex).unlockSlow", "internal/sync.fatal", "internal/sync.runtime_Semrelease", "sync/atomic.StoreUint32"], unfollowed := true, recurses := true, apart := false }
def OctetUnsealsSaid : Prop := octetUnsealsRow.holds Try.pinned (OpenSpec.ofChange octetUnsealsSpec)

/-- ITS FALSE NEIGHBOUR: 'it returns false'. Refute it at one input. -/
def octetUnsealsWrong : ChangeSpec := { name := "octetUnseals", fn := fun _ => fun
  | [d1, d2] => { results := [.lit (.bool false)], args := [d1, d2] }
  | _ => none }
def OctetUnsealsWrongFalsely : Prop := octetUnsealsRow.holds Try.pinned (OpenSpec.ofChange octetUnsealsWrong)

/-- 'payofflaw04.OctetSealed': WHATEVER THE INPUT: true; the input reads as it did. -/
def octetSealedSpec : ChangeSpec := { name := "octetSealed", fn := fun _ => fun
  | [d1, d2, d3, d4, d5] => { results := [.lit (.bool true)], args := [d1, d2, d3, d4, d5] }
  | _ => none }
def octetSealedRow : OpenClaim := { program := "ytcljbaoadmflgaa", sum := "8921a39449b10e4fb6e7d7d112b92b6fb1fd64eb3dd2f919a75b6cdd5d6cdd58", func := "payoff/payofflaw04.OctetSealed", spec := "octetSealed", inPlace := ["sync/atomic.LoadUint32", "(*internal/sync.Mutex).Lock", "internal/race.Disable", "sync/atomic.CompareAndSwapInt32", "internal/race.Enable", "internal/race.Acquire", "(*internal/sync.Mutex).lockSlow", "internal/sync.runtime_canSpin", "internal/sync.runtime_doSpin", "internal/sync.throw", "internal/sync.runtime_nanotime", "internal/sync.runtime_SemacquireMutex", "sync/atomic.AddInt32", "(*internal/sync.Mutex).Unlock", "internal/race.ReleaseMerge", "(*internal/sync.Mutex).unlockSlow", "internal/sync.fatal", "internal/sync.runtime_Semrelease", "sync/atomic.StoreUint32"], unfollowed := true, recurses := true, apart := false }
def OctetSealedSaid : Prop := octetSealedRow.holds Try.pinned (OpenSpec.ofChange octetSealedSpec)

/-- ITS FALSE NEIGHBOUR: 'it returns false'. Refute it at one input. -/
def octetSealedWrong : ChangeSpec := { name := "octetSealed", fn := fun _ => fun
  | [d1, d2, d3, d4, d5] => { results := [.lit (.bool false)], args := [d1, d2, d3, d4, d5] }
  | _ => none }
def OctetSealedWrongFalsely : Prop := octetSealedRow.holds Try.pinned (OpenSpec.ofChange octetSealedWrong)

/-- 'payofflaw04.OctetForm': WHATEVER THE INPUT: true; the input reads as it did. -/
def octetFormSpec : ChangeSpec := { name := "octetForm", fn := fun _ => fun
  | [d1, d2] => { results := [.lit (.bool true)], args := [d1, d2] }
  | _ => none }
def octetFormRow : OpenClaim := { program := "ytcljbaoadmflgaa", sum := "8921a39449b10e4fb6e7d7d112b92b6fb1fd64eb3dd2f919a75b6cdd5d6cdd58", func := "payoff/payofflaw04.OctetForm", spec := "octetForm", inPlace := ["sync/atomic.LoadUint32", "(*internal/sync.Mutex).Lock", "internal/race.Disable", "sync/atomic.CompareAndSwapInt32", "internal/race.Enable", "internal/race.Acquire", "(*internal/sync.Mutex).lockSlow", "internal/sync.runtime_canSpin", "internal/sync.runtime_doSpin", "internal/sync.throw", "internal/sync.runtime_nanotime", "internal/sync.runtime_SemacquireMutex", "sync/atomic.AddInt32", "(*internal/sync.Mutex).Unlock", "internal/race.ReleaseMerge", "(*internal/sync.Mutex).unlockSlow", "internal/sync.fatal", "internal/sync.runtime_Semrelease", "sync/atomic.StoreUint32"], unfollowed := true, recurses := true, apart := false }
def OctetFormSaid : Prop := octetFormRow.holds Try.pinned (OpenSpec.ofChange octetFormSpec)

/-- ITS FALSE NEIGHBOUR: 'it returns false'. Refute it at one input. -/
def octetFormWrong : ChangeSpec := { name := "octetForm", fn := fun _ => fun
  | [d1, d2] => { results := [.lit (.bool false)], args := [d1, d2] }
  | _ => none }
def OctetFormWrongFalsely : Prop := octetFormRow.holds Try.pinned (OpenSpec.ofChange octetFormWrong)

/-- 'payofflaw04.OctetBurst': WHATEVER THE INPUT: true; the input reads as it did. -/
def octetBurstSpec : ChangeSpec := { name := "octetBurst", fn := fun _ => fun
  | [d1, d2, d3, d4] => { results := [.lit (.bool true)], args := [d1, d2, d3, d4] }
  | _ => none }
def octetBurstRow : OpenClaim := { program := "ytcljbaoadmflgaa", sum := "8921a39449b10e4fb6e7d7d112b92b6fb1fd64eb3dd2f919a75b6cdd5d6cdd58", func := "payoff/payofflaw04.OctetBurst", spec := "octetBurst", inPlace := ["sync/atomic.LoadUint32", "(*internal/sync.Mutex).Lock", "internal/race.Disable", "sync/atomic.CompareAndSwapInt32", "internal/race.Enable", "internal/race.Acquire", "(*internal/sync.Mutex).lockSlow", "internal/sync.runtime_canSpin", "internal/sync.runtime_doSpin", "internal/sync.throw", "internal/sync.runtime_nanotime", "internal/sync.runtime_SemacquireMutex", "sync/atomic.AddInt32", "(*internal/sync.Mutex).Unlock", "internal/race.ReleaseMerge", "(*internal/sync.Mutex).unlockSlow", "internal/sync.fatal", "internal/sync.runtime_Semrelease", "sync/atomic.StoreUint32"], unfollowed := true, recurses := true, apart := false }
def OctetBurstSaid : Prop := octetBurstRow.holds Try.pinned (OpenSpec.ofChange octetBurstSpec)

/-- ITS FALSE NEIGHBOUR: 'it returns false'. Refute it at one input. -/
def octetBurstWrong : ChangeSpec := { name := "octetBurst", fn := fun _ => fun
  | [d1, d2, d3, d4] => { results := [.lit (.bool false)], args := [d1, d2, d3, d4] }
  | _ => none }
def OctetBurstWrongFalsely : Prop := octetBurstRow.holds Try.pinned (OpenSpec.ofChange octetBurstWrong)

/- THE SECOND FORM. 'bulk': how many values and letters a reading holds, each counted each time it is reached (what is shared counts as often as it is met; a slice's spare places count too). A statement '..UptoSaid' is the law's where the arguments, and the package variables that the reading takes, are together of bulk at most 1048576: NARROWER than '..Said'. Prove '..Said' where nothing that the law and all that it calls make is longer than what came in: it says more and counts as full. Else prove '..UptoSaid'. A law counts once. -/
mutual
def uptoBulk {H : Type} : DataW H → Nat
  | .lit (.string bytes) => bytes.length + 1
  | .lit _ => 1
  | .nil => 1
  | .ptr d => uptoBulk d + 1
  | .slice elems spare => uptoBulkAll elems + uptoBulkAll spare + 1
  | .agg parts => uptoBulkAll parts + 1
  | .iface _ d => uptoBulk d + 1
  | .map entries => uptoBulkEntries entries + 1
  | .held _ => 1
def uptoBulkAll {H : Type} : List (DataW H) → Nat
  | [] => 0
  | d :: r => uptoBulk d + uptoBulkAll r
def uptoBulkEntries {H : Type} : List (Lit × DataW H) → Nat
  | [] => 0
  | x :: r => uptoBulkEntry x + uptoBulkEntries r
def uptoBulkEntry {H : Type} : Lit × DataW H → Nat
  | (.string bytes, d) => bytes.length + uptoBulk d + 1
  | (_, d) => uptoBulk d + 1
 end
def uptoSmall : (H : Type) → List (DataW H) → Bool := fun _ ds => decide (uptoBulkAll ds ≤ 1048576)
def OpenSpec.upto (s : _root_.Go.ChangeSpec) : _root_.Go.OpenSpec := { _root_.Go.OpenSpec.ofChange s with cond := some uptoSmall }

/-- 'payofflaw04.OctetWrites', WHERE WHAT IT READS IS OF BULK AT MOST 1048576: true; the input reads as it did. -/
def octetWritesUptoRow : OpenClaim := { program := "ytcljbaoadmflgaa", sum := "8921a39449b10e4fb6e7d7d112b92b6fb1fd64eb3dd2f919a75b6cdd5d6cdd58", func := "payoff/payofflaw04.OctetWrites", spec := "octetWrites", apart := false, narrowed := true }
def OctetWritesUptoSaid : Prop := octetWritesUptoRow.holds Try.pinned (OpenSpec.upto octetWritesSpec)

/-- 'payofflaw04.OctetOnly', WHERE WHAT IT READS IS OF BULK AT MOST 1048576: true; the input reads as it did. -/
def octetOnlyUptoRow : OpenClaim := { program := "ytcljbaoadmflgaa", sum := "8921a39449b10e4fb6e7d7d112b92b6fb1fd64eb3dd2f919a75b6cdd5d6cdd58", func := "payoff/payofflaw04.OctetOnly", spec := "octetOnly", apart := false, narrowed := true }
def OctetOnlyUptoSaid : Prop := octetOnlyUptoRow.holds Try.pinned (OpenSpec.upto octetOnlySpec)

/-- 'payofflaw04.OctetSigned', WHERE WHAT IT READS IS OF BULK AT MOST 1048576: true; the input reads as it did. -/
def octetSignedUptoRow : OpenClaim := { program := "ytcljbaoadmflgaa", sum := "8921a39449b10e4fb6e7d7d112b92b6fb1fd64eb3dd2f919a75b6cdd5d6cdd58", func := "payoff/payofflaw04.OctetSigned", spec := "octetSigned", apart := false, narrowed := true }
def OctetSignedUptoSaid : Prop := octetSignedUptoRow.holds Try.pinned (OpenSpec.upto octetSignedSpec)

/-- 'payofflaw04.OctetReads', WHERE WHAT IT READS IS OF BULK AT MOST 1048576: true; the input reads as it did. -/
def octetReadsUptoRow : OpenClaim := { program := "ytcljbaoadmflgaa", sum := "8921a39449b10e4fb6e7d7d112b92b6fb1fd64eb3dd2f919a75b6cdd5d6cdd58", func := "payoff/payofflaw04.OctetReads", spec := "octetReads", apart := false, narrowed := true }
def OctetReadsUptoSaid : Prop := octetReadsUptoRow.holds Try.pinned (OpenSpec.upto octetReadsSpec)

/-- 'payofflaw04.OctetPair', WHERE WHAT IT READS IS OF BULK AT MOST 1048576: true; the input reads as it did. -/
def octetPairUptoRow : OpenClaim := { program := "ytcljbaoadmflgaa", sum := "8921a39449b10e4fb6e7d7d112b92b6fb1fd64eb3dd2f919a75b6cdd5d6cdd58", func := "payoff/payofflaw04.OctetPair", spec := "octetPair", apart := false, narrowed := true }
def OctetPairUptoSaid : Prop := octetPairUptoRow.holds Try.pinned (OpenSpec.upto octetPairSpec)

/-- 'payofflaw04.OctetStay', WHERE WHAT IT READS IS OF BULK AT MOST 1048576: true; the input reads as it did. -/
def octetStayUptoRow : OpenClaim := { program := "ytcljbaoadmflgaa", sum := "8921a39449b10e4fb6e7d7d112b92b6fb1fd64eb3dd2f919a75b6cdd5d6cdd58", func := "payoff/payofflaw04.OctetStay", spec := "octetStay", apart := false, narrowed := true }
def OctetStayUptoSaid : Prop := octetStayUptoRow.holds Try.pinned (OpenSpec.upto octetStaySpec)

/-- 'payofflaw04.OctetBack', WHERE WHAT IT READS IS OF BULK AT MOST 1048576: true; the input reads as it did. -/
def octetBackUptoRow : OpenClaim := { program := "ytcljbaoadmflgaa", sum := "8921a39449b10e4fb6e7d7d112b92b6fb1fd64eb3dd2f919a75b6cdd5d6cdd58", func := "payoff/payofflaw04.OctetBack", spec := "octetBack", apart := false, narrowed := true }
def OctetBackUptoSaid : Prop := octetBackUptoRow.holds Try.pinned (OpenSpec.upto octetBackSpec)

/-- 'payofflaw04.OctetSums', WHERE WHAT IT READS IS OF BULK AT MOST 1048576: true; the input reads as it did. -/
def octetSumsUptoRow : OpenClaim := { program := "ytcljbaoadmflgaa", sum := "8921a39449b10e4fb6e7d7d112b92b6fb1fd64eb3dd2f919a75b6cdd5d6cdd58", func := "payoff/payofflaw04.OctetSums", spec := "octetSums", inPlace := ["sync/atomic.LoadUint32", "(*internal/sync.Mutex).Lock", "internal/race.Disable", "sync/atomic.CompareAndSwapInt32", "internal/race.Enable", "internal/race.Acquire", "(*internal/sync.Mutex).lockSlow", "internal/sync.runtime_canSpin", "internal/sync.runtime_doSpin", "internal/sync.throw", "internal/sync.runtime_nanotime", "internal/sync.runtime_SemacquireMutex", "sync/atomic.AddInt32", "(*internal/sync.Mutex).Unlock", "internal/race.ReleaseMerge", "(*internal/sync.Mutex).unlockSlow", "internal/sync.fatal", "internal/sync.runtime_Semrelease", "sync/atomic.StoreUint32"], unfollowed := true, recurses := true, apart := false, narrowed := true }
def OctetSumsUptoSaid : Prop := octetSumsUptoRow.holds Try.pinned (OpenSpec.upto octetSumsSpec)

/-- 'payofflaw04.OctetSeals', WHERE WHAT IT READS IS OF BULK AT MOST 1048576: true; the input reads as it did. -/
def octetSealsUptoRow : OpenClaim := { program := "ytcljbaoadmflgaa", sum := "8921a39449b10e4fb6e7d7d112b92b6fb1fd64eb3dd2f919a75b6cdd5d6cdd58", func := "payoff/payofflaw04.OctetSeals", spec := "octetSeals", inPlace := ["sync/atomic.LoadUint32", "(*internal/sync.Mutex).Lock", "internal/race.Disable", "sync/atomic.CompareAndSwapInt32", "internal/race.Enable", "internal/race.Acquire", "(*internal/sync.Mutex).lockSlow", "internal/sync.runtime_canSpin", "internal/sync.runtime_doSpin", "internal/sync.throw", "internal/sync.runtime_nanotime", "internal/sync.runtime_SemacquireMutex", "sync/atomic.AddInt32", "(*internal/sync.Mutex).Unlock", "internal/race.ReleaseMerge", "(*internal/sync.Mutex).unlockSlow", "internal/sync.fatal", "internal/sync.runtime_Semrelease", "sync/atomic.StoreUint32"], unfollowed := true, recurses := true, apart := false, narrowed := true }
def OctetSealsUptoSaid : Prop := octetSealsUptoRow.holds Try.pinned (OpenSpec.upto octetSealsSpec)

/-- 'payofflaw04.OctetUnseals', WHERE WHAT IT READS IS OF BULK AT MOST 1048576: true; the input reads as it did. -/
def octetUnsealsUptoRow : OpenClaim := { program := "ytcljbaoadmflgaa", sum := "8921a39449b10e4fb6e7d7d112b92b6fb1fd64eb3dd2f919a75b6cdd5d6cdd58", func := "payoff/payofflaw04.OctetUnseals", spec := "octetUnseals", inPlace := ["sync/atomic.LoadUint32", "(*internal/sync.Mutex).Lock", "internal/race.Disable", "sync/atomic.CompareAndSwapInt32", "internal/race.Enable", "internal/race.Acquire", "(*internal/sync.Mutex).lockSlow", "internal/sync.runtime_canSpin", "internal/sync.runtime_doSpin", "internal/sync.throw", "internal/sync.runtime_nanotime", "internal/sync.runtime_SemacquireMutex", "sync/atomic.AddInt32", "(*internal/sync.Mutex).Unlock", "internal/race.ReleaseMerge", "(*internal/sync.Mutex).unlockSlow", "internal/sync.fatal", "internal/sync.runtime_Semrelease", "sync/atomic.StoreUint32"], unfollowed := true, recurses := true, apart := false, narrowed := true }
def OctetUnsealsUptoSaid : Prop := octetUnsealsUptoRow.holds Try.pinned (OpenSpec.upto octetUnsealsSpec)

/-- 'payofflaw04.OctetSealed', WHERE WHAT IT READS IS OF BULK AT MOST 1048576: true; the input reads as it did. -/
def octetSealedUptoRow : OpenClaim := { program := "ytcljbaoadmflgaa", sum := "8921a39449b10e4fb6e7d7d112b92b6fb1fd64eb3dd2f919a75b6cdd5d6cdd58", func := "payoff/payofflaw04.OctetSealed", spec := "octetSealed", inPlace := ["sync/atomic.LoadUint32", "(*internal/sync.Mutex).Lock", "internal/race.Disable", "sync/atomic.CompareAndSwapInt32", "internal/race.Enable", "internal/race.Acquire", "(*internal/sync.Mutex).lockSlow", "internal/sync.runtime_canSpin", "internal/sync.runtime_doSpin", "internal/sync.throw", "internal/sync.runtime_nanotime", "internal/sync.runtime_SemacquireMutex", "sync/atomic.AddInt32", "(*internal/sync.Mutex).Unlock", "internal/race.ReleaseMerge", "(*internal/sync.Mutex).unlockSlow", "internal/sync.fatal", "internal/sync.runtime_Semrelease", "sync/atomic.StoreUint32"], unfollowed := true, recurses := true, apart := false, narrowed := true }
def OctetSealedUptoSaid : Prop := octetSealedUptoRow.holds Try.pinned (OpenSpec.upto octetSealedSpec)

/-- 'payofflaw04.OctetForm', WHERE WHAT IT READS IS OF BULK AT MOST 1048576: true; the input reads as it did. -/
def octetFormUptoRow : OpenClaim := { program := "ytcljbaoadmflgaa", sum := "8921a39449b10e4fb6e7d7d112b92b6fb1fd64eb3dd2f919a75b6cdd5d6cdd58", func := "payoff/payofflaw04.OctetForm", spec := "octetForm", inPlace := ["sync/atomic.LoadUint32", "(*internal/sync.Mutex).Lock", "internal/race.Disable", "sync/atomic.CompareAndSwapInt32", "internal/race.Enable", "internal/race.Acquire", "(*internal/sync.Mutex).lockSlow", "internal/sync.runtime_canSpin", "internal/sync.runtime_doSpin", "internal/sync.throw", "internal/sync.runtime_nanotime", "internal/sync.runtime_SemacquireMutex", "sync/atomic.AddInt32", "(*internal/sync.Mutex).Unlock", "internal/race.ReleaseMerge", "(*internal/sync.Mutex).unlockSlow", "internal/sync.fatal", "internal/sync.runtime_Semrelease", "sync/atomic.StoreUint32"], unfollowed := true, recurses := true, apart := false, narrowed := true }
def OctetFormUptoSaid : Prop := octetFormUptoRow.holds Try.pinned (OpenSpec.upto octetFormSpec)

/-- 'payofflaw04.OctetBurst', WHERE WHAT IT READS IS OF BULK AT MOST 1048576: true; the input reads as it did. -/
def octetBurstUptoRow : OpenClaim := { program := "ytcljbaoadmflgaa", sum := "8921a39449b10e4fb6e7d7d112b92b6fb1fd64eb3dd2f919a75b6cdd5d6cdd58", func := "payoff/payofflaw04.OctetBurst", spec := "octetBurst", inPlace := ["sync/atomic.LoadUint32", "(*internal/sync.Mutex).Lock", "internal/race.Disable", "sync/atomic.CompareAndSwapInt32", "internal/race.Enable", "internal/race.Acquire", "(*internal/sync.Mutex).lockSlow", "internal/sync.runtime_canSpin", "internal/sync.runtime_doSpin", "internal/sync.throw", "internal/sync.runtime_nanotime", "internal/sync.runtime_SemacquireMutex", "sync/atomic.AddInt32", "(*internal/sync.Mutex).Unlock", "internal/race.ReleaseMerge", "(*internal/sync.Mutex).unlockSlow", "internal/sync.fatal", "internal/sync.runtime_Semrelease", "sync/atomic.StoreUint32"], unfollowed := true, recurses := true, apart := false, narrowed := true }
def OctetBurstUptoSaid : Prop := octetBurstUptoRow.holds Try.pinned (OpenSpec.upto octetBurstSpec)

end Rows
end Go.Proofs.Ytcljbaoadmflgaa
