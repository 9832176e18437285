/- VmQuiets, Quiet and Place, as the evaluator compiles them (printed by program; held against the program by the kernel). Condition: none. -/
import Derived.Test.YthjfngdhenpgmaaGreatLay
namespace Go.Proofs.YthjfngdhenpgmaaGreat
open Go.Kx
noncomputable section
set_option maxRecDepth 100000
def c5_0 (c : CallT) (f : Fr) (h : H) : Out :=
  (regC [(intC "vm.go:33" addQ addI (slotG 1) (constG (.n 1)))] (finC [(1, (envG 0))] normR)) c f h
def c5_1 (c : CallT) (f : Fr) (h : H) : Out :=
  (regC [(rd1C "vm.go:35" (loadH 3) (slotG 2)),
    (litC "vm.go:35" 3 1 [(.n 0), (.n 0), (.str 0 [])] [((0, (some 3)), (envG 0))]),
    (ckC (ch2C "vm.go:35" (appH 3 65) (slotG 3) (envG 0)))] (finC [(3, (envG 0))] normR)) c f h
def c5_2 (c : CallT) (f : Fr) (h : H) : Out :=
  (regC [(un1C "vm.go:34" (fieldP 0) (slotG 2)),
    (rd1C "vm.go:34" load1H (envG 0)),
    (intC "vm.go:34" neQ neI (envG 0) (constG (.n 2)))] (testK [] (envG 0)
   c5_1
   normR)) c f h
def c5_3 (c : CallT) (f : Fr) (h : H) : Out :=
  (andThen (blockC 1 (regC [(bin1C "vm.go:33" (idxSP 3) (slotG 4) (slotG 1)),
    (rd1C "vm.go:33" (loadH 3) (envG 0)),
    (allocC (.small 3 [(.n 0), (.n 0), (.str 0 [])] false)),
    (ckC (ch2C "vm.go:33" (storeH 3) (envG 0) (envG 1)))] (finC [(2, (envG 0))] c5_2)))
  c5_0) c f h
def c5_4 (c : CallT) (f : Fr) (h : H) : Out :=
  (regC [(intC "vm.go:33" ltQ ltI (slotG 1) (slotG 6))] (testK [] (envG 0)
   (andThen normR c5_3)
   (andThen (exitC (.exit 0)) c5_3))) c f h
def c5_5 (c : CallT) (f : Fr) (h : H) : Out :=
  (andThen (regC [(un1C "vm.go:33" lenP (slotG 0))] (finC [(1, (constG (.n 0))), (4, (slotG 0)), (6, (envG 0))] (blockC 0 (loopC c5_4))))
  (regC [] (finC [(5, (slotG 3))] (exitC .ret)))) c f h
/-- colloquy/vm.Quiet -/
def code5 (c : CallT) (f : Fr) (h : H) : Out :=
  (regC [] (finC [(5, (constG .nils))] (regC [] (finC [(3, (constG .nils))] c5_5)))) c f h
theorem fn5 [Sig] (prims : FuncId → Option CallT) (hp : prims 5 = none) : fnOf Tryz.prog (layAt table) prims 5 = some (.fn 1 7 code5 (resultsOf [resT 5])) := fnOf_eq (by kernel_rfl) hp
def c3_0 (c : CallT) (f : Fr) (h : H) : Out :=
  (regC [(un1C "outright.go:51" lenP (slotG 3)),
    (intC "outright.go:51" eqQ eqI (slotG 2) (envG 0)),
    (grdC "outright.go:51" (envG 0) true 1 (mvC [(slotG 2)])),
    (ckC (grdC "outright.go:51" (envG 1) true 1 (callC 6 [(envG 0), (constG (.n 1))]))),
    (grdC "outright.go:51" (envG 2) true 1 (intC "outright.go:51" eqQ eqI (envG 0) (constG (.n 0)))),
    (pickC "outright.go:51" (envG 3) (envG 0) (constG .ff)),
    (ckC (grdC "outright.go:51" (envG 0) true 1 (callC 4 []))),
    (pickC "outright.go:51" (envG 1) (envG 0) (constG .ff))] (finC [(4, (envG 0))] (exitC .ret))) c f h
def c3_1 (c : CallT) (f : Fr) (h : H) : Out :=
  (regC [(intC "outright.go:39" addQ addI (slotG 1) (constG (.n 1)))] (finC [(1, (envG 0))] normR)) c f h
def c3_2 (c : CallT) (f : Fr) (h : H) : Out :=
  (regC [(intC "outright.go:49" addQ addI (slotG 2) (constG (.n 1)))] (finC [(2, (envG 0))] normR)) c f h
def c3_3 (c : CallT) (f : Fr) (h : H) : Out :=
  (andThen (drawC [(false, (un1C "outright.go:46" lenP (slotG 3))), (false, (intC "outright.go:46" geQ geI (slotG 2) (envG 0))), (false, (grdC "outright.go:46" (envG 0) false 1 (mvC [(slotG 3)]))), (false, (grdC "outright.go:46" (envG 1) false 1 (mvC [(slotG 2)]))), (false, (grdC "outright.go:46" (envG 2) false 1 (bin1C "outright.go:46" (idxSP 3) (envG 1) (envG 0)))), (false, (grdC "outright.go:46" (envG 3) false 1 (un1C "outright.go:46" (fieldP 0) (envG 0)))), (false, (grdC "outright.go:46" (envG 4) false 1 (rd1C "outright.go:46" load1H (envG 0)))), (false, (grdC "outright.go:46" (envG 5) false 1 (mvC [(slotG 0)]))), (false, (grdC "outright.go:46" (envG 6) false 1 (mvC [(slotG 1)]))), (false, (grdC "outright.go:46" (envG 7) false 1 (bin1C "outright.go:46" (idxSP 3) (envG 1) (envG 0)))), (false, (grdC "outright.go:46" (envG 8) false 1 (un1C "outright.go:46" (fieldP 0) (envG 0)))), (false, (grdC "outright.go:46" (envG 9) false 1 (rd1C "outright.go:46" load1H (envG 0)))), (false, (grdC "outright.go:46" (envG 10) false 1 (intC "outright.go:46" neQ neI (envG 5) (envG 0)))), (false, (pickC "outright.go:46" (envG 11) (constG .tt) (envG 0))), (false, (grdC "outright.go:46" (envG 0) false 1 (mvC [(slotG 3)]))), (false, (grdC "outright.go:46" (envG 1) false 1 (mvC [(slotG 2)]))), (false, (grdC "outright.go:46" (envG 2) false 1 (bin1C "outright.go:46" (idxSP 3) (envG 1) (envG 0)))), (false, (grdC "outright.go:46" (envG 3) false 1 (un1C "outright.go:46" (fieldP 1) (envG 0)))), (false, (grdC "outright.go:46" (envG 4) false 1 (rd1C "outright.go:46" load1H (envG 0)))), (false, (grdC "outright.go:46" (envG 5) false 1 (mvC [(slotG 0)]))), (false, (grdC "outright.go:46" (envG 6) false 1 (mvC [(slotG 1)]))), (false, (grdC "outright.go:46" (envG 7) false 1 (bin1C "outright.go:46" (idxSP 3) (envG 1) (envG 0)))), (false, (grdC "outright.go:46" (envG 8) false 1 (un1C "outright.go:46" (fieldP 1) (envG 0)))), (false, (grdC "outright.go:46" (envG 9) false 1 (rd1C "outright.go:46" load1H (envG 0)))), (false, (grdC "outright.go:46" (envG 10) false 1 (intC "outright.go:46" neQ neI (envG 5) (envG 0)))), (false, (pickC "outright.go:46" (envG 11) (constG .tt) (envG 0))), (false, (grdC "outright.go:46" (envG 0) false 1 (mvC [(slotG 3)]))), (false, (grdC "outright.go:46" (envG 1) false 1 (mvC [(slotG 2)]))), (false, (grdC "outright.go:46" (envG 2) false 1 (bin1C "outright.go:46" (idxSP 3) (envG 1) (envG 0)))), (false, (grdC "outright.go:46" (envG 3) false 1 (un1C "outright.go:46" (fieldP 2) (envG 0)))), (false, (grdC "outright.go:46" (envG 4) false 1 (rd1C "outright.go:46" load1H (envG 0)))), (false, (grdC "outright.go:46" (envG 5) false 1 (mvC [(slotG 0)]))), (false, (grdC "outright.go:46" (envG 6) false 1 (mvC [(slotG 1)]))), (false, (grdC "outright.go:46" (envG 7) false 1 (bin1C "outright.go:46" (idxSP 3) (envG 1) (envG 0)))), (false, (grdC "outright.go:46" (envG 8) false 1 (un1C "outright.go:46" (fieldP 2) (envG 0)))), (false, (grdC "outright.go:46" (envG 9) false 1 (rd1C "outright.go:46" load1H (envG 0)))), (false, (grdC "outright.go:46" (envG 10) false 1 (bin1C "outright.go:46" (strP neS) (envG 5) (envG 0)))), (false, (pickC "outright.go:46" (envG 11) (constG .tt) (envG 0)))] [⟨32, 31, [0], (grdC "outright.go:46" (envG 4) false 1 (rd1C "outright.go:46" load1H (envG 0)))⟩, ⟨27, 26, [0], (grdC "outright.go:46" (envG 9) false 1 (rd1C "outright.go:46" load1H (envG 0)))⟩, ⟨20, 19, [0], (grdC "outright.go:46" (envG 4) false 1 (rd1C "outright.go:46" load1H (envG 0)))⟩, ⟨15, 14, [0], (grdC "outright.go:46" (envG 9) false 1 (rd1C "outright.go:46" load1H (envG 0)))⟩, ⟨8, 7, [0], (grdC "outright.go:46" (envG 4) false 1 (rd1C "outright.go:46" load1H (envG 0)))⟩, ⟨3, 2, [0], (grdC "outright.go:46" (envG 9) false 1 (rd1C "outright.go:46" load1H (envG 0)))⟩] (testK [] (envG 0)
   (regC [] (finC [(4, (constG .ff))] (exitC .ret)))
   normR))
  c3_2) c f h
def c3_4 (c : CallT) (f : Fr) (h : H) : Out :=
  (andThen (regC [(bin1C "outright.go:43" (idxSP 3) (slotG 0) (slotG 1)),
    (un1C "outright.go:43" (fieldP 0) (envG 0)),
    (rd1C "outright.go:43" load1H (envG 0)),
    (intC "outright.go:43" eqQ eqI (envG 0) (constG (.n 2)))] (testK [] (envG 0)
   (exitC (.exit 1))
   normR))
  c3_3) c f h
def c3_5 (c : CallT) (f : Fr) (h : H) : Out :=
  (andThen (blockC 1 (andThen (drawC [(false, (bin1C "outright.go:40" (idxSP 3) (slotG 5) (slotG 1))), (false, (un1C "outright.go:40" (fieldP 0) (envG 0))), (false, (rd1C "outright.go:40" load1H (envG 0))), (false, (bin1C "outright.go:40" (idxSP 3) (slotG 0) (slotG 1))), (false, (un1C "outright.go:40" (fieldP 0) (envG 0))), (false, (rd1C "outright.go:40" load1H (envG 0))), (false, (intC "outright.go:40" neQ neI (envG 3) (envG 0))), (false, (grdC "outright.go:40" (envG 0) false 1 (mvC [(slotG 5)]))), (false, (grdC "outright.go:40" (envG 1) false 1 (mvC [(slotG 1)]))), (false, (grdC "outright.go:40" (envG 2) false 1 (bin1C "outright.go:40" (idxSP 3) (envG 1) (envG 0)))), (false, (grdC "outright.go:40" (envG 3) false 1 (un1C "outright.go:40" (fieldP 1) (envG 0)))), (false, (grdC "outright.go:40" (envG 4) false 1 (rd1C "outright.go:40" load1H (envG 0)))), (false, (grdC "outright.go:40" (envG 5) false 1 (mvC [(slotG 0)]))), (false, (grdC "outright.go:40" (envG 6) false 1 (mvC [(slotG 1)]))), (false, (grdC "outright.go:40" (envG 7) false 1 (bin1C "outright.go:40" (idxSP 3) (envG 1) (envG 0)))), (false, (grdC "outright.go:40" (envG 8) false 1 (un1C "outright.go:40" (fieldP 1) (envG 0)))), (false, (grdC "outright.go:40" (envG 9) false 1 (rd1C "outright.go:40" load1H (envG 0)))), (false, (grdC "outright.go:40" (envG 10) false 1 (intC "outright.go:40" neQ neI (envG 5) (envG 0)))), (false, (pickC "outright.go:40" (envG 11) (constG .tt) (envG 0))), (false, (grdC "outright.go:40" (envG 0) false 1 (mvC [(slotG 5)]))), (false, (grdC "outright.go:40" (envG 1) false 1 (mvC [(slotG 1)]))), (false, (grdC "outright.go:40" (envG 2) false 1 (bin1C "outright.go:40" (idxSP 3) (envG 1) (envG 0)))), (false, (grdC "outright.go:40" (envG 3) false 1 (un1C "outright.go:40" (fieldP 2) (envG 0)))), (false, (grdC "outright.go:40" (envG 4) false 1 (rd1C "outright.go:40" load1H (envG 0)))), (false, (grdC "outright.go:40" (envG 5) false 1 (mvC [(slotG 0)]))), (false, (grdC "outright.go:40" (envG 6) false 1 (mvC [(slotG 1)]))), (false, (grdC "outright.go:40" (envG 7) false 1 (bin1C "outright.go:40" (idxSP 3) (envG 1) (envG 0)))), (false, (grdC "outright.go:40" (envG 8) false 1 (un1C "outright.go:40" (fieldP 2) (envG 0)))), (false, (grdC "outright.go:40" (envG 9) false 1 (rd1C "outright.go:40" load1H (envG 0)))), (false, (grdC "outright.go:40" (envG 10) false 1 (bin1C "outright.go:40" (strP neS) (envG 5) (envG 0)))), (false, (pickC "outright.go:40" (envG 11) (constG .tt) (envG 0)))] [⟨29, 28, [0], (rd1C "outright.go:40" load1H (envG 0))⟩, ⟨26, 25, [0], (rd1C "outright.go:40" load1H (envG 0))⟩, ⟨20, 19, [0], (grdC "outright.go:40" (envG 4) false 1 (rd1C "outright.go:40" load1H (envG 0)))⟩, ⟨15, 14, [0], (grdC "outright.go:40" (envG 9) false 1 (rd1C "outright.go:40" load1H (envG 0)))⟩, ⟨8, 7, [0], (grdC "outright.go:40" (envG 4) false 1 (rd1C "outright.go:40" load1H (envG 0)))⟩, ⟨3, 2, [0], (grdC "outright.go:40" (envG 9) false 1 (rd1C "outright.go:40" load1H (envG 0)))⟩] (testK [] (envG 0)
   (regC [] (finC [(4, (constG .ff))] (exitC .ret)))
   normR))
  c3_4))
  c3_1) c f h
def c3_6 (c : CallT) (f : Fr) (h : H) : Out :=
  (andThen (regC [(un1C "outright.go:39" lenP (slotG 0)),
    (intC "outright.go:39" ltQ ltI (slotG 1) (envG 0))] (testK [] (envG 0)
   normR
   (exitC (.exit 0))))
  c3_5) c f h
def c3_7 (c : CallT) (f : Fr) (h : H) : Out :=
  (andThen (regC [] (finC [(1, (constG (.n 0)))] (blockC 0 (loopC c3_6))))
  c3_0) c f h
def c3_8 (c : CallT) (f : Fr) (h : H) : Out :=
  (regC [(ckC (callC 5 [(slotG 5)]))] (finC [(3, (envG 0))] (regC [] (finC [(2, (constG (.n 0)))] c3_7)))) c f h
def c3_9 (c : CallT) (f : Fr) (h : H) : Out :=
  (regC [(ckC (ch2C "outright.go:36" (appH 3 65) (constG .nils) (slotG 0)))] (finC [(5, (envG 0))] c3_8)) c f h
def c3_10 (c : CallT) (f : Fr) (h : H) : Out :=
  (regC [(ckC (callC 4 []))] (finC [(4, (envG 0))] (exitC .ret))) c f h
def c3_11 (c : CallT) (f : Fr) (h : H) : Out :=
  (andThen (regC [(un1C "outright.go:33" lenP (slotG 0)),
    (intC "outright.go:33" gtQ gtI (envG 0) (constG (.n 200)))] (testK [] (envG 0)
   c3_10
   normR))
  c3_9) c f h
/-- colloquy/colloquylaw27.VmQuiets -/
def code3 (c : CallT) (f : Fr) (h : H) : Out :=
  (regC [] (finC [(4, (constG .ff))] c3_11)) c f h
theorem fn3 [Sig] (prims : FuncId → Option CallT) (hp : prims 3 = none) : fnOf Tryz.prog (layAt table) prims 3 = some (.fn 1 6 code3 (resultsOf [resT 4])) := fnOf_eq (by kernel_rfl) hp
def c6_0 (c : CallT) (f : Fr) (h : H) : Out :=
  (regC [(intC "law.go:15" addQ addI (slotG 2) (slotG 1))] (finC [(2, (envG 0))] normR)) c f h
def c6_1 (c : CallT) (f : Fr) (h : H) : Out :=
  (andThen (regC [(intC "law.go:14" ltQ ltI (slotG 2) (constG (.n 0)))] (testK [] (envG 0)
   c6_0
   normR))
  (regC [] (finC [(3, (slotG 2))] (exitC .ret)))) c f h
def c6_2 (c : CallT) (f : Fr) (h : H) : Out :=
  (regC [(intC "law.go:13" remQ remI (slotG 0) (slotG 1))] (finC [(2, (envG 0))] c6_1)) c f h
/-- colloquy/colloquylaw00.Place -/
def code6 (c : CallT) (f : Fr) (h : H) : Out :=
  (regC [] (finC [(3, (constG (.n 0)))] c6_2)) c f h
theorem fn6 [Sig] (prims : FuncId → Option CallT) (hp : prims 6 = none) : fnOf Tryz.prog (layAt table) prims 6 = some (.fn 2 4 code6 (resultsOf [resT 3])) := fnOf_eq (by kernel_rfl) hp
end
end Go.Proofs.YthjfngdhenpgmaaGreat
