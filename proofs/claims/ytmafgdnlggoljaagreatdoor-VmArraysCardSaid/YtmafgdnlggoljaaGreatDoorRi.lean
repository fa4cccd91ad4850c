/- Printed by program: runs of the abstract machine, by the kernel. -/
import Derived.Test.YtmafgdnlggoljaaGreatDoorV2
namespace Go.Kx
open Go
theorem Pc_run (n q x k s S g S' R : Int) (N I b : Nat) (L : List AV) (a : Nat → Int) : viewF (nmL 60 [(96, 0), (60, 0), (61, 0), (62, 0)]) (Pe_L n q x k s S g S' R N (I) b L a) (Pe_M n q x k s S g S' R N (I) b L a) (bodyOf 19) (runS EV 4000 (KP 19 [1, 1, 1, 0, 0, 0, 0, 0, 0]) (T1_fr n q x k s S g S' R N I b L a) [] (mkH 66 (T1_L n q x k s S g S' R N I b L a) (T1_M n q x k s S g S' R N I b L a)) 22
    [(.val (.int .i64 (s - 1 : Int)), 9),
    (.val (.bool false), 76),
    (.chk, 54),
    (.val (.int .i64 (s - 2 : Int)), 9),
    (.val (.bool false), 76),
    (.chk, 54),
    (.val (.int .i64 (s - 3 : Int)), 9),
    (.val (.bool false), 166),
    (.val (.bool false), 60),
    (.val (.int .i64 (s - 4 : Int)), 9),
    (.val (.bool false), 150),
    (.val (.int .i64 (s - 5 : Int)), 9),
    (.val (.bool false), 131),
    (.val (.int .i64 (s - 6 : Int)), 9),
    (.val (.bool false), 234),
    (.val (.int .i64 (s - 7 : Int)), 9),
    (.val (.bool false), 128),
    (.chk, 26),
    (.val (.int .i64 (s - 8 : Int)), 9),
    (.val (.bool false), 131),
    (.val (.int .i64 (s - 9 : Int)), 9),
    (.val (.bool false), 76),
    (.chk, 54),
    (.val (.int .i64 (s - 10 : Int)), 9),
    (.val (.bool false), 76),
    (.chk, 54),
    (.val (.int .i64 (s - 11 : Int)), 9),
    (.val (.bool false), 206),
    (.val (.bool true), 100000)] []) = some (some (ren (nmL 60 [(96, 0), (60, 0), (61, 0), (62, 0)]) (Pc_V n q x k s S g S' R N (I) b L a)), [], some .ret, Pc_ob n q x k s S g S' R N I b L a, objsP (nmL 60 [(96, 0), (60, 0), (61, 0), (62, 0)]) (Pe_L n q x k s S g S' R N (I) b L a), maps (nmL 60 [(96, 0), (60, 0), (61, 0), (62, 0)]) (Pe_M n q x k s S g S' R N (I) b L a)) := by kernel_rfl
end Go.Kx
namespace Go.Kx
open Go
theorem Qc_run (n q x k s S g S' R : Int) (N I b : Nat) (L : List AV) (a : Nat → Int) : viewF (nmL 60 [(96, 0), (60, 0), (61, 0), (62, 0)]) (Qe_L n q x k s S g S' R N (I) b L a) (Qe_M n q x k s S g S' R N (I) b L a) (bodyOf 19) (runS EV 4000 (KP 19 [1, 1, 1, 0, 0, 0, 0, 0, 0]) (T1_fr n q x k s S g S' R N I b L a) [] (mkH 66 (T1_L n q x k s S g S' R N I b L a) (T1_M n q x k s S g S' R N I b L a)) 22
    [(.val (.int .i64 (s - 1 : Int)), 9),
    (.val (.bool false), 76),
    (.chk, 54),
    (.val (.int .i64 (s - 2 : Int)), 9),
    (.val (.bool false), 76),
    (.chk, 54),
    (.val (.int .i64 (s - 3 : Int)), 9),
    (.val (.bool false), 166),
    (.val (.bool false), 60),
    (.val (.int .i64 (s - 4 : Int)), 9),
    (.val (.bool false), 150),
    (.val (.int .i64 (s - 5 : Int)), 9),
    (.val (.bool false), 131),
    (.val (.int .i64 (s - 6 : Int)), 9),
    (.val (.bool false), 234),
    (.val (.int .i64 (s - 7 : Int)), 9),
    (.val (.bool false), 128),
    (.chk, 26),
    (.val (.int .i64 (s - 8 : Int)), 9),
    (.val (.bool false), 131),
    (.val (.int .i64 (s - 9 : Int)), 9),
    (.val (.bool false), 76),
    (.chk, 54),
    (.val (.int .i64 (s - 10 : Int)), 9),
    (.val (.bool false), 76),
    (.chk, 54),
    (.val (.int .i64 (s - 11 : Int)), 9),
    (.val (.bool false), 206),
    (.val (.bool false), 7),
    (.val (.bool true), 100000)] []) = some (some (ren (nmL 60 [(96, 0), (60, 0), (61, 0), (62, 0)]) (Qc_V n q x k s S g S' R N (I) b L a)), [], some .ret, Qc_ob n q x k s S g S' R N I b L a, objsP (nmL 60 [(96, 0), (60, 0), (61, 0), (62, 0)]) (Qe_L n q x k s S g S' R N (I) b L a), maps (nmL 60 [(96, 0), (60, 0), (61, 0), (62, 0)]) (Qe_M n q x k s S g S' R N (I) b L a)) := by kernel_rfl
end Go.Kx
namespace Go.Kx
open Go
theorem Rc_run (n q x k s S g S' R : Int) (N I b : Nat) (L : List AV) (a : Nat → Int) : viewF (nmL 60 [(60, 0), (61, 0), (62, 0), (63, 0)]) (Re_L n q x k s (S : Int) g S' R N (I) b L a) (Re_M n q x k s (S : Int) g S' R N (I) b L a) (bodyOf 19) (runS EV 4000 (KP 19 [1, 1, 1, 0, 0, 0, 0, 0, 0]) (T2_fr n q x k s S g S' R N I b L a) [] (mkH 67 (T2_L n q x k s S g S' R N I b L a) (T2_M n q x k s S g S' R N I b L a)) 22
    [(.val (.int .i64 (s - 1 : Int)), 9),
    (.val (.bool false), 76),
    (.chk, 54),
    (.val (.int .i64 (s - 2 : Int)), 9),
    (.val (.bool false), 76),
    (.chk, 54),
    (.val (.int .i64 (s - 3 : Int)), 9),
    (.val (.bool false), 166),
    (.val (.bool false), 60),
    (.val (.int .i64 (s - 4 : Int)), 9),
    (.val (.bool false), 150),
    (.val (.int .i64 (s - 5 : Int)), 9),
    (.val (.bool false), 76),
    (.chk, 54),
    (.val (.int .i64 (s - 6 : Int)), 9),
    (.val (.bool false), 100000)] []) = some (some (ren (nmL 60 [(60, 0), (61, 0), (62, 0), (63, 0)]) (Rc_V n q x k s (S : Int) g S' R N (I) b L a)), [], some .ret, Rc_ob n q x k s S g S' R N I b L a, objsP (nmL 60 [(60, 0), (61, 0), (62, 0), (63, 0)]) (Re_L n q x k s (S : Int) g S' R N (I) b L a), maps (nmL 60 [(60, 0), (61, 0), (62, 0), (63, 0)]) (Re_M n q x k s (S : Int) g S' R N (I) b L a)) := by kernel_rfl
end Go.Kx
