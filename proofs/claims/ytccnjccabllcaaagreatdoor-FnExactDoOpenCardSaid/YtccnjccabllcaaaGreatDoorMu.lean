/-
  The numbers of the lock's functions and types, and that the program holds them.
-/
import Derived.Test.YtccnjccabllcaaaGreatDoorEngD
import Derived.Test.YtccnjccabllcaaaGreatDoorChecked
import Derived.Conc.MuLone
import Derived.KernelRfl
namespace Go.Proofs.YtccnjccabllcaaaGreatDoor
open Sx
set_option maxRecDepth 100000
abbrev muL:Go.Conc.Locks.MuLink:={ lock:=201,unlock:=202,ilock:=204,iunlock:=205,lockSlow:=211,unlockSlow:=214,disable:=207,enable:=209,acquire:=210,relMerge:=212,cas32:=208,add32:=213,tIMutex:=237,tMutex:=239,tPMutex:=245,tPIMutex:=247,tPI32:=249,tUP:=251,tNoCopy:=235,tU32:=218 }
theorem muLib:Go.Conc.Locks.MuLib Tryz.prog muL :=
 ⟨Tryz.func201,Tryz.func202,Tryz.func204,Tryz.func205,Tryz.func207,Tryz.func209,Tryz.func210,Tryz.func212,Tryz.func208,Tryz.func213,
  by kernel_rfl,fun w=>prun_run (by kernel_rfl) w,fun w=>prun_run (by kernel_rfl) w,fun w=>prun_run (by kernel_rfl) w,fun w=>prun_run (by kernel_rfl) w,
  by kernel_rfl,fun w=>prun_run (by kernel_rfl) w,fun w=>prun_run (by kernel_rfl) w,fun w=>prun_run (by kernel_rfl) w,fun w=>prun_run (by kernel_rfl) w,
  by kernel_rfl,fun w=>prun_run (by kernel_rfl) w,fun w=>prun_run (by kernel_rfl) w,fun w=>prun_run (by kernel_rfl) w,fun w=>prun_run (by kernel_rfl) w,
  by kernel_rfl,fun w=>prun_run (by kernel_rfl) w,fun w=>prun_run (by kernel_rfl) w,fun w=>prun_run (by kernel_rfl) w,fun w=>prun_run (by kernel_rfl) w,
  by kernel_rfl,fun w=>prun_run (by kernel_rfl) w,fun w=>prun_run (by kernel_rfl) w,fun w=>prun_run (by kernel_rfl) w,fun w=>prun_run (by kernel_rfl) w,
  by kernel_rfl,fun w=>prun_run (by kernel_rfl) w,fun w=>prun_run (by kernel_rfl) w,fun w=>prun_run (by kernel_rfl) w,fun w=>prun_run (by kernel_rfl) w,
  by kernel_rfl,fun w=>prun_run (by kernel_rfl) w,fun w=>prun_run (by kernel_rfl) w,fun w=>prun_run (by kernel_rfl) w,fun w=>prun_run (by kernel_rfl) w,
  by kernel_rfl,fun w=>prun_run (by kernel_rfl) w,fun w=>prun_run (by kernel_rfl) w,fun w=>prun_run (by kernel_rfl) w,fun w=>prun_run (by kernel_rfl) w,
  by kernel_rfl⟩
end Go.Proofs.YtccnjccabllcaaaGreatDoor
