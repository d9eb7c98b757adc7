/-
  A run that was done ahead: the kernel does it once more.
  A run that was done ahead: the kernel does it once more.
  A run that was done ahead: the kernel does it once more.
  A run that was done ahead: the kernel does it once more.
  A run that was done ahead: the kernel does it once more.
  A run that was done ahead: the kernel does it once more.
  A run that was done ahead: the kernel does it once more.
  A run that was done ahead: the kernel does it once more.
  A run that was done ahead: the kernel does it once more.
  A run that was done ahead: the kernel does it once more.
  A run that was done ahead: the kernel does it once more.
  A run that was done ahead: the kernel does it once more.
  A run that was done ahead: the kernel does it once more.
  A run that was done ahead: the kernel does it once more.
-/
import Derived.Test.YtdielfpgekenkaaGreatDoorJ21
import Derived.Test.YtdielfpgekenkaaGreatDoorJ17
namespace Go.Proofs.YtdielfpgekenkaaGreatDoor.Sx
open Go Vm
set_option maxRecDepth 100000
set_option maxHeartbeats 0
theorem says1 : saysM (cx.memo L1) M1 = true := by kernel_rfl
end Go.Proofs.YtdielfpgekenkaaGreatDoor.Sx
namespace Go.Proofs.YtdielfpgekenkaaGreatDoor.Sx
open Go Vm
set_option maxRecDepth 100000
set_option maxHeartbeats 0
theorem says2 : saysM (cx.memo L2) M2 = true := by kernel_rfl
end Go.Proofs.YtdielfpgekenkaaGreatDoor.Sx
namespace Go.Proofs.YtdielfpgekenkaaGreatDoor.Sx
open Go Vm
set_option maxRecDepth 100000
set_option maxHeartbeats 0
theorem says3 : saysM (cx.memo L3) M3 = true := by kernel_rfl
end Go.Proofs.YtdielfpgekenkaaGreatDoor.Sx
namespace Go.Proofs.YtdielfpgekenkaaGreatDoor.Sx
open Go Vm
set_option maxRecDepth 100000
set_option maxHeartbeats 0
theorem says4 : saysM (cx.memo L4) M4 = true := by kernel_rfl
end Go.Proofs.YtdielfpgekenkaaGreatDoor.Sx
namespace Go.Proofs.YtdielfpgekenkaaGreatDoor.Sx
open Go Vm
set_option maxRecDepth 100000
set_option maxHeartbeats 0
theorem says5 : saysM (cx.memo L5) M5 = true := by kernel_rfl
end Go.Proofs.YtdielfpgekenkaaGreatDoor.Sx
namespace Go.Proofs.YtdielfpgekenkaaGreatDoor.Sx
open Go Vm
set_option maxRecDepth 100000
set_option maxHeartbeats 0
theorem says6 : saysM (cx.memo L6) M6 = true := by kernel_rfl
end Go.Proofs.YtdielfpgekenkaaGreatDoor.Sx
namespace Go.Proofs.YtdielfpgekenkaaGreatDoor.Sx
open Go Vm
set_option maxRecDepth 100000
set_option maxHeartbeats 0
theorem says7 : saysM (cx.memo L7) M7 = true := by kernel_rfl
end Go.Proofs.YtdielfpgekenkaaGreatDoor.Sx
namespace Go.Proofs.YtdielfpgekenkaaGreatDoor.Sx
open Go Vm
set_option maxRecDepth 100000
set_option maxHeartbeats 0
theorem says8 : saysM (cx.memo L8) M8 = true := by kernel_rfl
end Go.Proofs.YtdielfpgekenkaaGreatDoor.Sx
namespace Go.Proofs.YtdielfpgekenkaaGreatDoor.Sx
open Go Vm
set_option maxRecDepth 100000
set_option maxHeartbeats 0
theorem says9 : saysM (cx.memo L9) M9 = true := by kernel_rfl
end Go.Proofs.YtdielfpgekenkaaGreatDoor.Sx
namespace Go.Proofs.YtdielfpgekenkaaGreatDoor.Sx
open Go Vm
set_option maxRecDepth 100000
set_option maxHeartbeats 0
theorem says10 : saysM (cx.memo L10) M10 = true := by kernel_rfl
end Go.Proofs.YtdielfpgekenkaaGreatDoor.Sx
namespace Go.Proofs.YtdielfpgekenkaaGreatDoor.Sx
open Go Vm
set_option maxRecDepth 100000
set_option maxHeartbeats 0
theorem says11 : saysM (cx.memo L11) M11 = true := by kernel_rfl
end Go.Proofs.YtdielfpgekenkaaGreatDoor.Sx
namespace Go.Proofs.YtdielfpgekenkaaGreatDoor.Sx
open Go Vm
set_option maxRecDepth 100000
set_option maxHeartbeats 0
theorem says12 : saysM (cx.memo L12) M12 = true := by kernel_rfl
end Go.Proofs.YtdielfpgekenkaaGreatDoor.Sx
namespace Go.Proofs.YtdielfpgekenkaaGreatDoor.Sx
open Go Vm
set_option maxRecDepth 100000
set_option maxHeartbeats 0
theorem says13 : saysM (cx.memo L13) M13 = true := by kernel_rfl
end Go.Proofs.YtdielfpgekenkaaGreatDoor.Sx
namespace Go.Proofs.YtdielfpgekenkaaGreatDoor.Sx
open Go Vm
set_option maxRecDepth 100000
set_option maxHeartbeats 0
theorem says14 : saysM (cx.memo L14) M14 = true := by kernel_rfl
end Go.Proofs.YtdielfpgekenkaaGreatDoor.Sx
