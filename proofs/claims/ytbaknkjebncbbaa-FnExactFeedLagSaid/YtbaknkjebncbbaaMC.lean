import Derived.Test.YtbaknkjebncbbaaMB
set_option linter.all false
section
/-! Plain models: news and feeds. -/
namespace Go.Rs
end Go.Rs
end
section
/-! Plain models: the order of nodes, names searched, nodes at pointers. -/
namespace Go.Rs
end Go.Rs
end
section
/-! Plain models: parts of valid nodes are valid; filters and stores. -/
namespace Go.Rs
end Go.Rs
end
section
/-! Plain models: documents selected. -/
namespace Go.Rs
end Go.Rs
end
section
/-! Plain models: nodes with another node at a pointer, and without one. -/
namespace Go.Rs
end Go.Rs
end
