/- Printed by program: runs of the abstract machine, by the kernel. -/
import Derived.Test.YtmafgdnlggoljaaGreatDoorV1
namespace Go.Kx
open Go
theorem a1_run (n q x k s S g S' R : Int) (N I b : Nat) (L : List AV) (a : Nat → Int) : viewC (nmL 3 []) (A2_L n q x k s S g S' R N I b L a) (A2_M n q x k s S g S' R N I b L a) ((fut EV 100000).call 4 [] (mkH 3 (A1_L n q x k s S g S' R N I b L a) (A1_M n q x k s S g S' R N I b L a))) = some ((.bool true), objs (nmL 3 []) (A2_L n q x k s S g S' R N I b L a), maps (nmL 3 []) (A2_M n q x k s S g S' R N I b L a)) := by kernel_rfl
end Go.Kx
